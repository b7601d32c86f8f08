/- The walk of RatioSimplest: no fraction with a lesser denominator lies in the interval. -/
import Derived.Test.YtaojdlcailpheaaQM4
import Derived.Test.YtaojdlcailpheaaQGk
import Derived.Test.YtaojdlcailpheaaQSj
set_option linter.unusedVariables false
namespace Go.Proofs.Ytaojdlcailpheaa
open Go.RowKit

set_option maxRecDepth 100000 in
set_option maxHeartbeats 16000000 in
theorem simplest_0z (w : World) (a b c d e f' : Int) (a0 : -32768 ≤ a) (a1 : a ≤ 32767) (b0 : -32768 ≤ b) (b1 : b ≤ 32767) (c0 : -32768 ≤ c) (c1 : c ≤ 32767) (d0 : -32768 ≤ d) (d1 : d ≤ 32767)
    (A B1 B2 B C D1 D2 D k : Int) (q : Nat) (LO HI : F) (hA : a.tmod 300 = A) (hB1 : bits .and .i64 b 1023 = B1) (hB2 : B1.tmod 60 = B2) (hB3 : B1 % 60 = B2) (hB : 1 + B2 = B) (hC : c.tmod 300 = C) (hD1 : bits .and .i64 d 1023 = D1) (hD2 : D1.tmod 60 = D2) (hD3 : D1 % 60 = D2) (hD : 1 + D2 = D)
    (Al : -299 ≤ A) (Ah : A ≤ 299) (B1l : 0 ≤ B1) (B1h : B1 ≤ 1023) (B2l : 0 ≤ B2) (B2h : B2 ≤ 59) (Bl : 1 ≤ B) (Bh : B ≤ 60) (Cl : -299 ≤ C) (Ch : C ≤ 299) (D1l : 0 ≤ D1) (D1h : D1 ≤ 1023) (D2l : 0 ≤ D2) (D2h : D2 ≤ 59) (Dl : 1 ≤ D) (Dh : D ≤ 60)
    (pAD : -18000 ≤ A * D) (pAD' : A * D ≤ 18000) (pCB : -18000 ≤ C * B) (pCB' : C * B ≤ 18000) (hsw : decide (C * B < A * D) = false)
    (HLO : Hid (ofF A B = (LO, 0))) (HHI : Hid (ofF C D = (HI, 0))) (HS : Hid (simplestF LO HI = (fr false 0 q, 0))) (HVZ : Hid (ValidF (fr false 0 q))) (HLQ : Hid (limbs q = [q])) (hq0 : 1 ≤ q) (hq1 : q ≤ 60) (hq2 : decide (60 < q) = false) (hk : (q : Int) = k) (kl : 1 ≤ k) (kh : k ≤ 60)
    (pxk : -18000 ≤ A * k) (pxk' : A * k ≤ 18000) (puk : -18000 ≤ C * k) (puk' : C * k ≤ 18000)
    (h1 : decide (0 < A * k) = false) (h2 : decide (C * k < 0) = false)
    (HLOOP : Hid (∀ j : Nat, 1 ≤ j → j < q → decide (A * (j : Int) ≤ C * (j : Int) / D * B) = false)) :
    Calls Try.prog 10 #[.agg #[.int .i16 a, .int .i16 b, .int .i16 c, .int .i16 d, .int .i16 e, .int .i16 f']] w fun e w' => e = .returned (.bool true) ∧ Below w.heap.size w w' := by
  obtain ⟨W0, hW⟩ : ∃ W0, W0 = w.alloc (.cells #[.int .i16 a, .int .i16 b, .int .i16 c, .int .i16 d, .int .i16 e, .int .i16 f'] 47) := ⟨_, rfl⟩
  have hb0 : Below w.heap.size w W0 := hW ▸ held_alloc (Below.refl _ w)
  have bx : Box W0 w.heap.size #[.int .i16 a, .int .i16 b, .int .i16 c, .int .i16 d, .int .i16 e, .int .i16 f'] 47 := hW ▸ Box.new w _ _
  have k0 : W0.cell? ⟨w.heap.size, 0, none⟩ = some (.int .i16 a) := bx.cell 0
  have k1 : W0.cell? ⟨w.heap.size, 1, none⟩ = some (.int .i16 b) := bx.cell 1
  have k2 : W0.cell? ⟨w.heap.size, 2, none⟩ = some (.int .i16 c) := bx.cell 2
  have k3 : W0.cell? ⟨w.heap.size, 3, none⟩ = some (.int .i16 d) := bx.cell 3
  have k4 : W0.cell? ⟨w.heap.size, 4, none⟩ = some (.int .i16 e) := bx.cell 4
  have k5 : W0.cell? ⟨w.heap.size, 5, none⟩ = some (.int .i16 f') := bx.cell 5
  have HB0 := Lib.hid hb0
  clear hb0 bx
  have wk : IntKind.i64.wrap k = k := wrap_in (by omega) (by omega)
  have wa : IntKind.i64.wrap a = a := wrap_in (by omega) (by omega)
  have wb : IntKind.i64.wrap b = b := wrap_in (by omega) (by omega)
  have wc : IntKind.i64.wrap c = c := wrap_in (by omega) (by omega)
  have wd : IntKind.i64.wrap d = d := wrap_in (by omega) (by omega)
  have wB : IntKind.i64.wrap B = B := wrap_in (by omega) (by omega)
  have wD : IntKind.i64.wrap D = D := wrap_in (by omega) (by omega)
  go_enter Try.func10, Try.ntmps10
  go_upto_region 1 with fail
  rw [← hW]
  clear hW
  refine wp_region_gj (J := GJ _ (fun _ => SV (fun _ => none) (fun κ => match κ with | 0 => some (.pointer (some ⟨w.heap.size, 0, none⟩)) | 1 => some (.int .i16 a) | 2 => some (.int .i64 a) | 3 => some (.int .i64 A) | 4 => some (.pointer (some ⟨w.heap.size, 1, none⟩)) | 5 => some (.int .i16 b) | 6 => some (.int .i64 b) | 7 => some (.int .i64 B1) | 8 => some (.int .i64 B2) | 9 => some (.int .i64 B) | 10 => some (.pointer (some ⟨w.heap.size, 2, none⟩)) | 11 => some (.int .i16 c) | 12 => some (.int .i64 c) | 13 => some (.int .i64 C) | 14 => some (.pointer (some ⟨w.heap.size, 3, none⟩)) | 15 => some (.int .i16 d) | 16 => some (.int .i64 d) | 17 => some (.int .i64 D1) | 18 => some (.int .i64 D2) | 19 => some (.int .i64 D) | 20 => some (.int .i64 A) | 21 => some (.int .i64 B) | 22 => some (.int .i64 C) | 23 => some (.int .i64 D) | _ => none)) (fun _ _ w => Below W0.heap.size W0 w) _) (by kernel_rfl) ?_ ?_ (GJ.start (below_dr (Below.refl _ _)))
  · intro listed a w9 i hr hj
    obtain ⟨hi12, hun, _, _, _⟩ := ready_mem hr
    have h12 : i ∈ List.range 24 := List.mem_range.2 hi12
    simp only [List.range, List.range.loop, List.mem_cons, List.not_mem_nil, or_false] at h12
    obtain ⟨f, rfl, hcm, hf⟩ := hj.opened [17, 18, 19, 20, 21, 22, 23, 24, 25, 26, 27, 28, 29, 30, 31, 32, 33, 34, 35, 36, 3, 4, 5, 6] (by kernel_rfl)
    have hcm : Below W0.heap.size W0 w9 := hcm
    rcases h12 with rfl | rfl | rfl | rfl | rfl | rfl | rfl | rfl | rfl | rfl | rfl | rfl | rfl | rfl | rfl | rfl | rfl | rfl | rfl | rfl | rfl | rfl | rfl | rfl
    · refine GJ.op hj (by kernel_rfl) hr rfl [17, 18, 19, 20, 21, 22, 23, 24, 25, 26, 27, 28, 29, 30, 31, 32, 33, 34, 35, 36, 3, 4, 5, 6] (by kernel_rfl) (fun K hK => ?_)
      simp only [Act.put, List.foldl_cons, List.foldl_nil, List.setIfInBounds_toArray, List.set_cons_zero, List.set_cons_succ] at hK ⊢
      clear hj hf
      go_simp
      exact hK _ _ (fun k v _ _ h => h.keep (Below.refl _ _)) (fun t ht => SV.eq rfl rfl) hcm
    · have e1 : f 17 = .pointer (some ⟨w.heap.size, 0, none⟩) := (hf 0 _ _ rfl rfl (up_dep hr (by kernel_rfl))).2 _ rfl
      have kc := keep_cell hcm k0
      have klt := World.block_lt_of_cell? _ _ kc
      simp only at klt
      refine GJ.op hj (by kernel_rfl) hr rfl [17, 18, 19, 20, 21, 22, 23, 24, 25, 26, 27, 28, 29, 30, 31, 32, 33, 34, 35, 36, 3, 4, 5, 6] (by kernel_rfl) (fun K hK => ?_)
      simp only [Act.put, List.foldl_cons, List.foldl_nil, List.setIfInBounds_toArray, List.set_cons_zero, List.set_cons_succ] at hK ⊢
      clear hj hf
      rw [e1] at hK ⊢
      clear e1
      go_simp
      exact hK _ _ (fun k v _ _ h => h.keep (Below.refl _ _)) (fun t ht => SV.eq rfl rfl) hcm
    · have e1 : f 18 = .int .i16 a := (hf 1 _ _ rfl rfl (up_dep hr (by kernel_rfl))).2 _ rfl
      refine GJ.op hj (by kernel_rfl) hr rfl [17, 18, 19, 20, 21, 22, 23, 24, 25, 26, 27, 28, 29, 30, 31, 32, 33, 34, 35, 36, 3, 4, 5, 6] (by kernel_rfl) (fun K hK => ?_)
      simp only [Act.put, List.foldl_cons, List.foldl_nil, List.setIfInBounds_toArray, List.set_cons_zero, List.set_cons_succ] at hK ⊢
      clear hj hf
      rw [e1] at hK ⊢
      clear e1
      go_simp
      exact hK _ _ (fun k v _ _ h => h.keep (Below.refl _ _)) (fun t ht => SV.eq rfl rfl) hcm
    · have e1 : f 19 = .int .i64 a := (hf 2 _ _ rfl rfl (up_dep hr (by kernel_rfl))).2 _ rfl
      refine GJ.op hj (by kernel_rfl) hr rfl [17, 18, 19, 20, 21, 22, 23, 24, 25, 26, 27, 28, 29, 30, 31, 32, 33, 34, 35, 36, 3, 4, 5, 6] (by kernel_rfl) (fun K hK => ?_)
      simp only [Act.put, List.foldl_cons, List.foldl_nil, List.setIfInBounds_toArray, List.set_cons_zero, List.set_cons_succ] at hK ⊢
      clear hj hf
      rw [e1] at hK ⊢
      clear e1
      go_simp
      exact hK _ _ (fun k v _ _ h => h.keep (Below.refl _ _)) (fun t ht => SV.eq rfl rfl) hcm
    · refine GJ.op hj (by kernel_rfl) hr rfl [17, 18, 19, 20, 21, 22, 23, 24, 25, 26, 27, 28, 29, 30, 31, 32, 33, 34, 35, 36, 3, 4, 5, 6] (by kernel_rfl) (fun K hK => ?_)
      simp only [Act.put, List.foldl_cons, List.foldl_nil, List.setIfInBounds_toArray, List.set_cons_zero, List.set_cons_succ] at hK ⊢
      clear hj hf
      go_simp
      exact hK _ _ (fun k v _ _ h => h.keep (Below.refl _ _)) (fun t ht => SV.eq rfl rfl) hcm
    · have e1 : f 21 = .pointer (some ⟨w.heap.size, 1, none⟩) := (hf 4 _ _ rfl rfl (up_dep hr (by kernel_rfl))).2 _ rfl
      have kc := keep_cell hcm k1
      have klt := World.block_lt_of_cell? _ _ kc
      simp only at klt
      refine GJ.op hj (by kernel_rfl) hr rfl [17, 18, 19, 20, 21, 22, 23, 24, 25, 26, 27, 28, 29, 30, 31, 32, 33, 34, 35, 36, 3, 4, 5, 6] (by kernel_rfl) (fun K hK => ?_)
      simp only [Act.put, List.foldl_cons, List.foldl_nil, List.setIfInBounds_toArray, List.set_cons_zero, List.set_cons_succ] at hK ⊢
      clear hj hf
      rw [e1] at hK ⊢
      clear e1
      go_simp
      exact hK _ _ (fun k v _ _ h => h.keep (Below.refl _ _)) (fun t ht => SV.eq rfl rfl) hcm
    · have e1 : f 22 = .int .i16 b := (hf 5 _ _ rfl rfl (up_dep hr (by kernel_rfl))).2 _ rfl
      refine GJ.op hj (by kernel_rfl) hr rfl [17, 18, 19, 20, 21, 22, 23, 24, 25, 26, 27, 28, 29, 30, 31, 32, 33, 34, 35, 36, 3, 4, 5, 6] (by kernel_rfl) (fun K hK => ?_)
      simp only [Act.put, List.foldl_cons, List.foldl_nil, List.setIfInBounds_toArray, List.set_cons_zero, List.set_cons_succ] at hK ⊢
      clear hj hf
      rw [e1] at hK ⊢
      clear e1
      go_simp
      exact hK _ _ (fun k v _ _ h => h.keep (Below.refl _ _)) (fun t ht => SV.eq rfl rfl) hcm
    · have e1 : f 23 = .int .i64 b := (hf 6 _ _ rfl rfl (up_dep hr (by kernel_rfl))).2 _ rfl
      refine GJ.op hj (by kernel_rfl) hr rfl [17, 18, 19, 20, 21, 22, 23, 24, 25, 26, 27, 28, 29, 30, 31, 32, 33, 34, 35, 36, 3, 4, 5, 6] (by kernel_rfl) (fun K hK => ?_)
      simp only [Act.put, List.foldl_cons, List.foldl_nil, List.setIfInBounds_toArray, List.set_cons_zero, List.set_cons_succ] at hK ⊢
      clear hj hf
      rw [e1] at hK ⊢
      clear e1
      go_simp
      exact hK _ _ (fun k v _ _ h => h.keep (Below.refl _ _)) (fun t ht => SV.eq rfl rfl) hcm
    · have e1 : f 24 = .int .i64 B1 := (hf 7 _ _ rfl rfl (up_dep hr (by kernel_rfl))).2 _ rfl
      refine GJ.op hj (by kernel_rfl) hr rfl [17, 18, 19, 20, 21, 22, 23, 24, 25, 26, 27, 28, 29, 30, 31, 32, 33, 34, 35, 36, 3, 4, 5, 6] (by kernel_rfl) (fun K hK => ?_)
      simp only [Act.put, List.foldl_cons, List.foldl_nil, List.setIfInBounds_toArray, List.set_cons_zero, List.set_cons_succ] at hK ⊢
      clear hj hf
      rw [e1] at hK ⊢
      clear e1
      go_simp
      exact hK _ _ (fun k v _ _ h => h.keep (Below.refl _ _)) (fun t ht => SV.eq rfl rfl) hcm
    · have e1 : f 25 = .int .i64 B2 := (hf 8 _ _ rfl rfl (up_dep hr (by kernel_rfl))).2 _ rfl
      refine GJ.op hj (by kernel_rfl) hr rfl [17, 18, 19, 20, 21, 22, 23, 24, 25, 26, 27, 28, 29, 30, 31, 32, 33, 34, 35, 36, 3, 4, 5, 6] (by kernel_rfl) (fun K hK => ?_)
      simp only [Act.put, List.foldl_cons, List.foldl_nil, List.setIfInBounds_toArray, List.set_cons_zero, List.set_cons_succ] at hK ⊢
      clear hj hf
      rw [e1] at hK ⊢
      clear e1
      go_simp
      exact hK _ _ (fun k v _ _ h => h.keep (Below.refl _ _)) (fun t ht => SV.eq rfl rfl) hcm
    · refine GJ.op hj (by kernel_rfl) hr rfl [17, 18, 19, 20, 21, 22, 23, 24, 25, 26, 27, 28, 29, 30, 31, 32, 33, 34, 35, 36, 3, 4, 5, 6] (by kernel_rfl) (fun K hK => ?_)
      simp only [Act.put, List.foldl_cons, List.foldl_nil, List.setIfInBounds_toArray, List.set_cons_zero, List.set_cons_succ] at hK ⊢
      clear hj hf
      go_simp
      exact hK _ _ (fun k v _ _ h => h.keep (Below.refl _ _)) (fun t ht => SV.eq rfl rfl) hcm
    · have e1 : f 27 = .pointer (some ⟨w.heap.size, 2, none⟩) := (hf 10 _ _ rfl rfl (up_dep hr (by kernel_rfl))).2 _ rfl
      have kc := keep_cell hcm k2
      have klt := World.block_lt_of_cell? _ _ kc
      simp only at klt
      refine GJ.op hj (by kernel_rfl) hr rfl [17, 18, 19, 20, 21, 22, 23, 24, 25, 26, 27, 28, 29, 30, 31, 32, 33, 34, 35, 36, 3, 4, 5, 6] (by kernel_rfl) (fun K hK => ?_)
      simp only [Act.put, List.foldl_cons, List.foldl_nil, List.setIfInBounds_toArray, List.set_cons_zero, List.set_cons_succ] at hK ⊢
      clear hj hf
      rw [e1] at hK ⊢
      clear e1
      go_simp
      exact hK _ _ (fun k v _ _ h => h.keep (Below.refl _ _)) (fun t ht => SV.eq rfl rfl) hcm
    · have e1 : f 28 = .int .i16 c := (hf 11 _ _ rfl rfl (up_dep hr (by kernel_rfl))).2 _ rfl
      refine GJ.op hj (by kernel_rfl) hr rfl [17, 18, 19, 20, 21, 22, 23, 24, 25, 26, 27, 28, 29, 30, 31, 32, 33, 34, 35, 36, 3, 4, 5, 6] (by kernel_rfl) (fun K hK => ?_)
      simp only [Act.put, List.foldl_cons, List.foldl_nil, List.setIfInBounds_toArray, List.set_cons_zero, List.set_cons_succ] at hK ⊢
      clear hj hf
      rw [e1] at hK ⊢
      clear e1
      go_simp
      exact hK _ _ (fun k v _ _ h => h.keep (Below.refl _ _)) (fun t ht => SV.eq rfl rfl) hcm
    · have e1 : f 29 = .int .i64 c := (hf 12 _ _ rfl rfl (up_dep hr (by kernel_rfl))).2 _ rfl
      refine GJ.op hj (by kernel_rfl) hr rfl [17, 18, 19, 20, 21, 22, 23, 24, 25, 26, 27, 28, 29, 30, 31, 32, 33, 34, 35, 36, 3, 4, 5, 6] (by kernel_rfl) (fun K hK => ?_)
      simp only [Act.put, List.foldl_cons, List.foldl_nil, List.setIfInBounds_toArray, List.set_cons_zero, List.set_cons_succ] at hK ⊢
      clear hj hf
      rw [e1] at hK ⊢
      clear e1
      go_simp
      exact hK _ _ (fun k v _ _ h => h.keep (Below.refl _ _)) (fun t ht => SV.eq rfl rfl) hcm
    · refine GJ.op hj (by kernel_rfl) hr rfl [17, 18, 19, 20, 21, 22, 23, 24, 25, 26, 27, 28, 29, 30, 31, 32, 33, 34, 35, 36, 3, 4, 5, 6] (by kernel_rfl) (fun K hK => ?_)
      simp only [Act.put, List.foldl_cons, List.foldl_nil, List.setIfInBounds_toArray, List.set_cons_zero, List.set_cons_succ] at hK ⊢
      clear hj hf
      go_simp
      exact hK _ _ (fun k v _ _ h => h.keep (Below.refl _ _)) (fun t ht => SV.eq rfl rfl) hcm
    · have e1 : f 31 = .pointer (some ⟨w.heap.size, 3, none⟩) := (hf 14 _ _ rfl rfl (up_dep hr (by kernel_rfl))).2 _ rfl
      have kc := keep_cell hcm k3
      have klt := World.block_lt_of_cell? _ _ kc
      simp only at klt
      refine GJ.op hj (by kernel_rfl) hr rfl [17, 18, 19, 20, 21, 22, 23, 24, 25, 26, 27, 28, 29, 30, 31, 32, 33, 34, 35, 36, 3, 4, 5, 6] (by kernel_rfl) (fun K hK => ?_)
      simp only [Act.put, List.foldl_cons, List.foldl_nil, List.setIfInBounds_toArray, List.set_cons_zero, List.set_cons_succ] at hK ⊢
      clear hj hf
      rw [e1] at hK ⊢
      clear e1
      go_simp
      exact hK _ _ (fun k v _ _ h => h.keep (Below.refl _ _)) (fun t ht => SV.eq rfl rfl) hcm
    · have e1 : f 32 = .int .i16 d := (hf 15 _ _ rfl rfl (up_dep hr (by kernel_rfl))).2 _ rfl
      refine GJ.op hj (by kernel_rfl) hr rfl [17, 18, 19, 20, 21, 22, 23, 24, 25, 26, 27, 28, 29, 30, 31, 32, 33, 34, 35, 36, 3, 4, 5, 6] (by kernel_rfl) (fun K hK => ?_)
      simp only [Act.put, List.foldl_cons, List.foldl_nil, List.setIfInBounds_toArray, List.set_cons_zero, List.set_cons_succ] at hK ⊢
      clear hj hf
      rw [e1] at hK ⊢
      clear e1
      go_simp
      exact hK _ _ (fun k v _ _ h => h.keep (Below.refl _ _)) (fun t ht => SV.eq rfl rfl) hcm
    · have e1 : f 33 = .int .i64 d := (hf 16 _ _ rfl rfl (up_dep hr (by kernel_rfl))).2 _ rfl
      refine GJ.op hj (by kernel_rfl) hr rfl [17, 18, 19, 20, 21, 22, 23, 24, 25, 26, 27, 28, 29, 30, 31, 32, 33, 34, 35, 36, 3, 4, 5, 6] (by kernel_rfl) (fun K hK => ?_)
      simp only [Act.put, List.foldl_cons, List.foldl_nil, List.setIfInBounds_toArray, List.set_cons_zero, List.set_cons_succ] at hK ⊢
      clear hj hf
      rw [e1] at hK ⊢
      clear e1
      go_simp
      exact hK _ _ (fun k v _ _ h => h.keep (Below.refl _ _)) (fun t ht => SV.eq rfl rfl) hcm
    · have e1 : f 34 = .int .i64 D1 := (hf 17 _ _ rfl rfl (up_dep hr (by kernel_rfl))).2 _ rfl
      refine GJ.op hj (by kernel_rfl) hr rfl [17, 18, 19, 20, 21, 22, 23, 24, 25, 26, 27, 28, 29, 30, 31, 32, 33, 34, 35, 36, 3, 4, 5, 6] (by kernel_rfl) (fun K hK => ?_)
      simp only [Act.put, List.foldl_cons, List.foldl_nil, List.setIfInBounds_toArray, List.set_cons_zero, List.set_cons_succ] at hK ⊢
      clear hj hf
      rw [e1] at hK ⊢
      clear e1
      go_simp
      exact hK _ _ (fun k v _ _ h => h.keep (Below.refl _ _)) (fun t ht => SV.eq rfl rfl) hcm
    · have e1 : f 35 = .int .i64 D2 := (hf 18 _ _ rfl rfl (up_dep hr (by kernel_rfl))).2 _ rfl
      refine GJ.op hj (by kernel_rfl) hr rfl [17, 18, 19, 20, 21, 22, 23, 24, 25, 26, 27, 28, 29, 30, 31, 32, 33, 34, 35, 36, 3, 4, 5, 6] (by kernel_rfl) (fun K hK => ?_)
      simp only [Act.put, List.foldl_cons, List.foldl_nil, List.setIfInBounds_toArray, List.set_cons_zero, List.set_cons_succ] at hK ⊢
      clear hj hf
      rw [e1] at hK ⊢
      clear e1
      go_simp
      exact hK _ _ (fun k v _ _ h => h.keep (Below.refl _ _)) (fun t ht => SV.eq rfl rfl) hcm
    · have e1 : f 20 = .int .i64 A := (hf 3 _ _ rfl rfl (up_dep hr (by kernel_rfl))).2 _ rfl
      refine GJ.op hj (by kernel_rfl) hr rfl [17, 18, 19, 20, 21, 22, 23, 24, 25, 26, 27, 28, 29, 30, 31, 32, 33, 34, 35, 36, 3, 4, 5, 6] (by kernel_rfl) (fun K hK => ?_)
      simp only [Act.put, List.foldl_cons, List.foldl_nil, List.setIfInBounds_toArray, List.set_cons_zero, List.set_cons_succ] at hK ⊢
      clear hj hf
      rw [e1] at hK ⊢
      clear e1
      go_simp
      exact hK _ _ (fun k v _ _ h => h.keep (Below.refl _ _)) (fun t ht => SV.eq rfl rfl) hcm
    · have e1 : f 26 = .int .i64 B := (hf 9 _ _ rfl rfl (up_dep hr (by kernel_rfl))).2 _ rfl
      refine GJ.op hj (by kernel_rfl) hr rfl [17, 18, 19, 20, 21, 22, 23, 24, 25, 26, 27, 28, 29, 30, 31, 32, 33, 34, 35, 36, 3, 4, 5, 6] (by kernel_rfl) (fun K hK => ?_)
      simp only [Act.put, List.foldl_cons, List.foldl_nil, List.setIfInBounds_toArray, List.set_cons_zero, List.set_cons_succ] at hK ⊢
      clear hj hf
      rw [e1] at hK ⊢
      clear e1
      go_simp
      exact hK _ _ (fun k v _ _ h => h.keep (Below.refl _ _)) (fun t ht => SV.eq rfl rfl) hcm
    · have e1 : f 30 = .int .i64 C := (hf 13 _ _ rfl rfl (up_dep hr (by kernel_rfl))).2 _ rfl
      refine GJ.op hj (by kernel_rfl) hr rfl [17, 18, 19, 20, 21, 22, 23, 24, 25, 26, 27, 28, 29, 30, 31, 32, 33, 34, 35, 36, 3, 4, 5, 6] (by kernel_rfl) (fun K hK => ?_)
      simp only [Act.put, List.foldl_cons, List.foldl_nil, List.setIfInBounds_toArray, List.set_cons_zero, List.set_cons_succ] at hK ⊢
      clear hj hf
      rw [e1] at hK ⊢
      clear e1
      go_simp
      exact hK _ _ (fun k v _ _ h => h.keep (Below.refl _ _)) (fun t ht => SV.eq rfl rfl) hcm
    · have e1 : f 36 = .int .i64 D := (hf 19 _ _ rfl rfl (up_dep hr (by kernel_rfl))).2 _ rfl
      refine GJ.op hj (by kernel_rfl) hr rfl [17, 18, 19, 20, 21, 22, 23, 24, 25, 26, 27, 28, 29, 30, 31, 32, 33, 34, 35, 36, 3, 4, 5, 6] (by kernel_rfl) (fun K hK => ?_)
      simp only [Act.put, List.foldl_cons, List.foldl_nil, List.setIfInBounds_toArray, List.set_cons_zero, List.set_cons_succ] at hK ⊢
      clear hj hf
      rw [e1] at hK ⊢
      clear e1
      go_simp
      exact hK _ _ (fun k v _ _ h => h.keep (Below.refl _ _)) (fun t ht => SV.eq rfl rfl) hcm
  · intro listed a w10 hr hj
    have hu : ∀ k, k < 24 → up listed k := fun k hk => all_up (by kernel_rfl) hj.lsize hr k hk
    obtain ⟨f, rfl, hcm, hf⟩ := hj.opened [17, 18, 19, 20, 21, 22, 23, 24, 25, 26, 27, 28, 29, 30, 31, 32, 33, 34, 35, 36, 3, 4, 5, 6] (by kernel_rfl)
    replace hcm : Below W0.heap.size W0 w10 := hcm
    have e3 : f 3 = .int .i64 A := (hf 20 _ _ rfl rfl (hu 20 (by omega))).2 _ rfl
    have e4 : f 4 = .int .i64 B := (hf 21 _ _ rfl rfl (hu 21 (by omega))).2 _ rfl
    have e5 : f 5 = .int .i64 C := (hf 22 _ _ rfl rfl (hu 22 (by omega))).2 _ rfl
    have e6 : f 6 = .int .i64 D := (hf 23 _ _ rfl rfl (hu 23 (by omega))).2 _ rfl
    have HB : Hid (Below w.heap.size w w10) := HB0.out.trans (hcm.mono HB0.out.size)
    clear hf hj hr hu hcm k0 k1 k2 k3 k4 k5
    simp only [List.foldl_cons, List.foldl_nil, List.setIfInBounds_toArray, List.set_cons_zero, List.set_cons_succ]
    rw [e3, e4, e5, e6]
    clear e3 e4 e5 e6
    generalize f 17 = g17
    generalize f 18 = g18
    generalize f 19 = g19
    generalize f 20 = g20
    generalize f 21 = g21
    generalize f 22 = g22
    generalize f 23 = g23
    generalize f 24 = g24
    generalize f 25 = g25
    generalize f 26 = g26
    generalize f 27 = g27
    generalize f 28 = g28
    generalize f 29 = g29
    generalize f 30 = g30
    generalize f 31 = g31
    generalize f 32 = g32
    generalize f 33 = g33
    generalize f 34 = g34
    generalize f 35 = g35
    generalize f 36 = g36
    clear f
    go_wp2_with fail
    refine (ROf_c _ A B (by omega) (by omega) (by omega) (by omega)).mono ?_
    rw [HLO.out]
    rintro e w11 ⟨v, rfl, hv, hb11⟩
    have hv : IsF _ v (LO) := hv
    obtain ⟨va, vb, rfl, h1, h2⟩ := hv
    obtain ⟨pL, mL, rfl, _, _⟩ := h1.shape
    obtain ⟨qL, nL, rfl, _, _⟩ := h2.shape
    have FL := Lib.hid (IsF.at_ h1 h2)
    clear h1 h2
    replace HB := Lib.hid (HB.out.trans (hb11.mono HB.out.size))
    clear hb11
    have g_L : w.heap.size ≤ w11.heap.size := by have := HB.out.size; omega
    go_wp2_with fail
    refine (ROf_c _ C D (by omega) (by omega) (by omega) (by omega)).mono ?_
    rw [HHI.out]
    rintro e w12 ⟨v, rfl, hv, hb12⟩
    have hv : IsF _ v (HI) := hv
    obtain ⟨va, vb, rfl, h1, h2⟩ := hv
    obtain ⟨pH, mH, rfl, _, _⟩ := h1.shape
    obtain ⟨qH, nH, rfl, _, _⟩ := h2.shape
    have FH := Lib.hid (IsF.at_ h1 h2)
    clear h1 h2
    obtain ⟨hb12, CL⟩ := after_new hb12
    replace CL := Lib.hid CL
    replace FL := Lib.hid (FL.out.after hb12)
    replace HB := Lib.hid (HB.out.trans (hb12.mono HB.out.size))
    clear hb12
    have d_L_H : w11.heap.size < w12.heap.size := CL.out.lt
    have g_H : w.heap.size ≤ w12.heap.size := by have := HB.out.size; omega
    obtain ⟨cL0, cL1, cL2⟩ := CL.out.cells3
    have ltL := CL.out.lt
    go_wp2_with fail
    refine (Simplest_c _ _ _ LO HI (FL.out.alloc _) (FH.out.alloc _)).mono ?_
    rw [HS.out]
    rintro e w13 ⟨v, rfl, hv, hb13⟩
    have hv : IsF _ v (fr false 0 q) := hv
    obtain ⟨va, vb, rfl, h1, h2⟩ := hv
    obtain ⟨pZ, mZ, rfl, _, _⟩ := h1.shape
    obtain ⟨qZ, nZ, rfl, _, _⟩ := h2.shape
    have FZ := Lib.hid (IsF.at_ h1 h2)
    clear h1 h2
    clear cL0 cL1 cL2 ltL
    obtain ⟨hb13, CH⟩ := after_new hb13
    replace CH := Lib.hid CH
    replace CL := Lib.hid (CL.out.after hb13)
    replace FL := Lib.hid (FL.out.after hb13)
    replace FH := Lib.hid (FH.out.after hb13)
    replace HB := Lib.hid (HB.out.trans (hb13.mono HB.out.size))
    clear hb13
    have d_L_Z : w11.heap.size < w13.heap.size := CL.out.lt
    have d_H_Z : w12.heap.size < w13.heap.size := CH.out.lt
    have g_Z : w.heap.size ≤ w13.heap.size := by have := HB.out.size; omega
    obtain ⟨cL0, cL1, cL2⟩ := CL.out.cells3
    have ltL := CL.out.lt
    obtain ⟨cH0, cH1, cH2⟩ := CH.out.cells3
    have ltH := CH.out.lt
    go_wp2_with fail
    refine (Valid_c _ _ (fr false 0 q) (FZ.out.alloc _)).mono ?_
    intro e w14 hr
    obtain ⟨rfl, hb14⟩ := hr.yes HVZ.out
    clear hr
    clear cL0 cL1 cL2 ltL cH0 cH1 cH2 ltH
    obtain ⟨hb14, CZ⟩ := after_new hb14
    replace CZ := Lib.hid CZ
    replace CL := Lib.hid (CL.out.after hb14)
    replace CH := Lib.hid (CH.out.after hb14)
    replace FL := Lib.hid (FL.out.after hb14)
    replace FH := Lib.hid (FH.out.after hb14)
    replace FZ := Lib.hid (FZ.out.after hb14)
    replace HB := Lib.hid (HB.out.trans (hb14.mono HB.out.size))
    clear hb14
    obtain ⟨_, i1, i2⟩ := FZ.out.parts
    replace i1 : Sl _ _ (limbs 0) := i1
    replace i2 : Sl _ _ (limbs q) := i2
    rw [HLQ.out] at i2
    obtain ⟨bq, oq, cq, eq1, _, _, kq, lq⟩ := i2.one_cell
    simp only [fr, HLQ.out, List.length_cons, List.length_nil, Nat.zero_add] at eq1
    injection eq1 with eq1 _ eq3
    subst eq1 eq3
    simp only [fr, HLQ.out, limbs_zero, List.length_cons, List.length_nil, Nat.zero_add] at CZ
    clear i1 i2 FL FH FZ
    obtain ⟨cL0, cL1, cL2⟩ := CL.out.cells3
    have ltL := CL.out.lt
    obtain ⟨cH0, cH1, cH2⟩ := CH.out.cells3
    have ltH := CH.out.lt
    obtain ⟨cZ0, cZ1, cZ2⟩ := CZ.out.cells3
    have ltZ := CZ.out.lt
    go_upto_region 9 with fail
    have KQ := Lib.hid kq
    clear kq
    clear CL
    clear CH
    clear cL0 cL1 cL2 ltL cH0 cH1 cH2 ltH cZ0 cZ1 cZ2 ltZ
    refine wp_region_gj (J := GJ _ (fun _ => SV (fun _ => none) (fun κ => match κ with | 0 => some (.pointer (some ⟨w13.heap.size, 2, none⟩)) | 1 => some (.slice (some ⟨bq, oq, none⟩) 1 nZ) | 2 => some (.pointer (some ⟨bq, oq, none⟩)) | 3 => some (.int .u32 k) | 4 => some (.int .i64 k) | 5 => some (.int .i64 0) | 6 => some (.int .i64 k) | _ => none)) (fun _ _ w => Below w14.heap.size w14 w) _) (by kernel_rfl) ?_ ?_ (GJ.start (below_dr (Below.refl _ _)))
    · intro listed a w9 i hr hj
      obtain ⟨hi12, hun, _, _, _⟩ := ready_mem hr
      have h12 : i ∈ List.range 7 := List.mem_range.2 hi12
      simp only [List.range, List.range.loop, List.mem_cons, List.not_mem_nil, or_false] at h12
      obtain ⟨f, rfl, hcm, hf⟩ := hj.opened [92, 93, 94, 95, 96, 13, 14] (by kernel_rfl)
      have hcm : Below w14.heap.size w14 w9 := hcm
      rcases h12 with rfl | rfl | rfl | rfl | rfl | rfl | rfl
      · refine GJ.op hj (by kernel_rfl) hr rfl [92, 93, 94, 95, 96, 13, 14] (by kernel_rfl) (fun K hK => ?_)
        simp only [Act.put, List.foldl_cons, List.foldl_nil, List.setIfInBounds_toArray, List.set_cons_zero, List.set_cons_succ] at hK ⊢
        clear hj hf
        go_simp
        exact hK _ _ (fun k v _ _ h => h.keep (Below.refl _ _)) (fun t ht => SV.eq rfl rfl) hcm
      · have e1 : f 92 = .pointer (some ⟨w13.heap.size, 2, none⟩) := (hf 0 _ _ rfl rfl (up_dep hr (by kernel_rfl))).2 _ rfl
        obtain ⟨k0, k1, k2⟩ := (CZ.out.after hcm).cells3
        have klt := (CZ.out.after hcm).lt
        refine GJ.op hj (by kernel_rfl) hr rfl [92, 93, 94, 95, 96, 13, 14] (by kernel_rfl) (fun K hK => ?_)
        simp only [Act.put, List.foldl_cons, List.foldl_nil, List.setIfInBounds_toArray, List.set_cons_zero, List.set_cons_succ] at hK ⊢
        clear hj hf
        rw [e1] at hK ⊢
        clear e1
        go_simp
        exact hK _ _ (fun k v _ _ h => h.keep (Below.refl _ _)) (fun t ht => SV.eq rfl rfl) hcm
      · have e1 : f 93 = .slice (some ⟨bq, oq, none⟩) 1 nZ := (hf 1 _ _ rfl rfl (up_dep hr (by kernel_rfl))).2 _ rfl
        refine GJ.op hj (by kernel_rfl) hr rfl [92, 93, 94, 95, 96, 13, 14] (by kernel_rfl) (fun K hK => ?_)
        simp only [Act.put, List.foldl_cons, List.foldl_nil, List.setIfInBounds_toArray, List.set_cons_zero, List.set_cons_succ] at hK ⊢
        clear hj hf
        rw [e1] at hK ⊢
        clear e1
        go_simp
        exact hK _ _ (fun k v _ _ h => h.keep (Below.refl _ _)) (fun t ht => SV.eq rfl rfl) hcm
      · have e1 : f 94 = .pointer (some ⟨bq, oq, none⟩) := (hf 2 _ _ rfl rfl (up_dep hr (by kernel_rfl))).2 _ rfl
        have kc := keep_cell hcm KQ.out
        have klt := World.block_lt_of_cell? _ _ kc
        simp only at klt
        refine GJ.op hj (by kernel_rfl) hr rfl [92, 93, 94, 95, 96, 13, 14] (by kernel_rfl) (fun K hK => ?_)
        simp only [Act.put, List.foldl_cons, List.foldl_nil, List.setIfInBounds_toArray, List.set_cons_zero, List.set_cons_succ] at hK ⊢
        clear hj hf
        rw [e1] at hK ⊢
        clear e1
        go_simp
        exact hK _ _ (fun k v _ _ h => h.keep (Below.refl _ _)) (fun t ht => SV.eq rfl rfl) hcm
      · have e1 : f 95 = .int .u32 k := (hf 3 _ _ rfl rfl (up_dep hr (by kernel_rfl))).2 _ rfl
        refine GJ.op hj (by kernel_rfl) hr rfl [92, 93, 94, 95, 96, 13, 14] (by kernel_rfl) (fun K hK => ?_)
        simp only [Act.put, List.foldl_cons, List.foldl_nil, List.setIfInBounds_toArray, List.set_cons_zero, List.set_cons_succ] at hK ⊢
        clear hj hf
        rw [e1] at hK ⊢
        clear e1
        go_simp
        exact hK _ _ (fun k v _ _ h => h.keep (Below.refl _ _)) (fun t ht => SV.eq rfl rfl) hcm
      · refine GJ.op hj (by kernel_rfl) hr rfl [92, 93, 94, 95, 96, 13, 14] (by kernel_rfl) (fun K hK => ?_)
        simp only [Act.put, List.foldl_cons, List.foldl_nil, List.setIfInBounds_toArray, List.set_cons_zero, List.set_cons_succ] at hK ⊢
        clear hj hf
        go_simp
        exact hK _ _ (fun k v _ _ h => h.keep (Below.refl _ _)) (fun t ht => SV.eq rfl rfl) hcm
      · have e1 : f 96 = .int .i64 k := (hf 4 _ _ rfl rfl (up_dep hr (by kernel_rfl))).2 _ rfl
        refine GJ.op hj (by kernel_rfl) hr rfl [92, 93, 94, 95, 96, 13, 14] (by kernel_rfl) (fun K hK => ?_)
        simp only [Act.put, List.foldl_cons, List.foldl_nil, List.setIfInBounds_toArray, List.set_cons_zero, List.set_cons_succ] at hK ⊢
        clear hj hf
        rw [e1] at hK ⊢
        clear e1
        go_simp
        exact hK _ _ (fun k v _ _ h => h.keep (Below.refl _ _)) (fun t ht => SV.eq rfl rfl) hcm
    · intro listed a w15 hr hj
      have hu : ∀ k, k < 7 → up listed k := fun k hk => all_up (by kernel_rfl) hj.lsize hr k hk
      obtain ⟨f, rfl, hcm, hf⟩ := hj.opened [92, 93, 94, 95, 96, 13, 14] (by kernel_rfl)
      replace hcm : Below w14.heap.size w14 w15 := hcm
      have e13 : f 13 = .int .i64 0 := (hf 5 _ _ rfl rfl (hu 5 (by omega))).2 _ rfl
      have e14 : f 14 = .int .i64 k := (hf 6 _ _ rfl rfl (hu 6 (by omega))).2 _ rfl
      replace HB : Hid (Below w.heap.size w w15) := Lib.hid (HB.out.trans (hcm.mono HB.out.size))
      replace CZ := Lib.hid (CZ.out.after hcm)
      replace lq := Nat.lt_of_lt_of_le lq hcm.size
      have kq := keep_cell hcm KQ.out
      clear hf hj hr hu hcm KQ
      simp only [List.foldl_cons, List.foldl_nil, List.setIfInBounds_toArray, List.set_cons_zero, List.set_cons_succ]
      rw [e13, e14]
      clear e13 e14
      generalize f 92 = g92
      generalize f 93 = g93
      generalize f 94 = g94
      generalize f 95 = g95
      generalize f 96 = g96
      clear f
      obtain ⟨cZ0, cZ1, cZ2⟩ := CZ.out.cells3
      have ltZ := CZ.out.lt
      go_wp2_with fail
      clear cZ0 cZ1 cZ2 ltZ
      clear CZ HLO HHI HS HVZ HLQ  kq lq
      clear g_L d_L_H g_H d_L_Z d_H_Z g_Z
      go_loopg [15] (q - 1) (fun g t wx => ∃ j : Nat, 1 ≤ j ∧ j ≤ q ∧ g = q - j ∧ t = .int .i64 (j : Int) ∧ Hid (Below w.heap.size w wx))
      case atStart => exact ⟨1, Nat.le_refl _, hq0, rfl, rfl, HB.out⟩
      case round =>
        obtain ⟨j, hj1, hjq, rfl, rfl, hbl⟩ := hrel
        clear HB
        by_cases hlt : j < q
        · have hjk : (j : Int) < k := by omega
          have hdj : decide ((j : Int) < k) = true := decide_eq_true hjk
          have hbad := HLOOP.out j hj1 hlt
          have b1 := mulb (x := C) (y := (j : Int)) (X := 300) (Y := 60) (by omega) (by omega) (by omega) (by omega)
          have b2 := floor_bd (n := C * (j : Int)) (d := D) (X := 300 * 60) (by omega) b1.1 b1.2
          obtain ⟨G, hG⟩ : ∃ G, C * (j : Int) / D = G := ⟨_, rfl⟩
          rw [hG] at b2 hbad
          have b3 := mulb (x := G) (y := B) (X := 20000) (Y := 60) (by omega) (by omega) (by omega) (by omega)
          have b4 := mulb (x := A) (y := (j : Int)) (X := 300) (Y := 60) (by omega) (by omega) (by omega) (by omega)
          obtain ⟨b1a, b1b⟩ := b1
          obtain ⟨b3a, b3b⟩ := b3
          obtain ⟨b4a, b4b⟩ := b4
          have hG2 := Lib.hid hG
          clear b2 hG
          go_wp2_with fail
          refine (floor_c _ (C * (j : Int)) D (by omega) (by omega) (by omega)).mono ?_
          rw [hG2.out]
          rintro e w20 ⟨rfl, hb20⟩
          replace hbl := Lib.hid (hbl.out.trans (hb20.mono hbl.out.size))
          clear hb20 hG2
          go_wp2_with fail
          go_roundg (q - (j + 1))
          case measure => omega
          case rel => exact ⟨j + 1, by omega, by omega, rfl, by go_num, hbl⟩
        · obtain rfl : j = q := by omega
          have hdj : decide (k < k) = false := decide_eq_false (by omega)
          clear hlt HLOOP
          go_wp2_with fail
          refine (rworks_c _).mono ?_
          rintro e w21 ⟨rfl, hb21⟩
          replace hbl := Lib.hid (hbl.out.trans (hb21.mono hbl.out.size))
          clear hb21
          go_wp2_with fail
          go_ret
          exact ⟨rfl, hbl.out⟩
set_option maxRecDepth 100000 in
set_option maxHeartbeats 16000000 in
theorem simplest_0p (w : World) (a b c d e f' : Int) (a0 : -32768 ≤ a) (a1 : a ≤ 32767) (b0 : -32768 ≤ b) (b1 : b ≤ 32767) (c0 : -32768 ≤ c) (c1 : c ≤ 32767) (d0 : -32768 ≤ d) (d1 : d ≤ 32767)
    (A B1 B2 B C D1 D2 D k : Int) (q p : Nat) (LO HI : F) (hA : a.tmod 300 = A) (hB1 : bits .and .i64 b 1023 = B1) (hB2 : B1.tmod 60 = B2) (hB3 : B1 % 60 = B2) (hB : 1 + B2 = B) (hC : c.tmod 300 = C) (hD1 : bits .and .i64 d 1023 = D1) (hD2 : D1.tmod 60 = D2) (hD3 : D1 % 60 = D2) (hD : 1 + D2 = D)
    (Al : -299 ≤ A) (Ah : A ≤ 299) (B1l : 0 ≤ B1) (B1h : B1 ≤ 1023) (B2l : 0 ≤ B2) (B2h : B2 ≤ 59) (Bl : 1 ≤ B) (Bh : B ≤ 60) (Cl : -299 ≤ C) (Ch : C ≤ 299) (D1l : 0 ≤ D1) (D1h : D1 ≤ 1023) (D2l : 0 ≤ D2) (D2h : D2 ≤ 59) (Dl : 1 ≤ D) (Dh : D ≤ 60)
    (pAD : -18000 ≤ A * D) (pAD' : A * D ≤ 18000) (pCB : -18000 ≤ C * B) (pCB' : C * B ≤ 18000) (hsw : decide (C * B < A * D) = false)
    (HLO : Hid (ofF A B = (LO, 0))) (HHI : Hid (ofF C D = (HI, 0))) (HS : Hid (simplestF LO HI = (fr false p q, 0))) (HVZ : Hid (ValidF (fr false p q))) (HLQ : Hid (limbs q = [q])) (hq0 : 1 ≤ q) (hq1 : q ≤ 60) (hq2 : decide (60 < q) = false) (hk : (q : Int) = k) (kl : 1 ≤ k) (kh : k ≤ 60)
    (pxk : -18000 ≤ A * k) (pxk' : A * k ≤ 18000) (puk : -18000 ≤ C * k) (puk' : C * k ≤ 18000)
    (n m : Int) (hp0 : 0 < p) (hp1 : p < 300) (HLP : Hid (limbs p = [p])) (hn : (p : Int) = n) (nl : -300 ≤ n) (nh : n ≤ 300) (hm : n - 1 = m) (ml : -300 ≤ m) (mh : m ≤ 300) (hn0 : decide (n < 0) = false) (hnz : (n == 0) = false)
    (pny : -18000 ≤ n * B) (pny' : n * B ≤ 18000) (pnv : -18000 ≤ n * D) (pnv' : n * D ≤ 18000) (h1 : decide (n * B < A * k) = false) (h2 : decide (C * k < n * D) = false)
    (pmy : -18000 ≤ m * B) (pmy' : m * B ≤ 18000) (pmv : -18000 ≤ m * D) (pmv' : m * D ≤ 18000) (HM : Hid (decide (m * B < A * k) = true ∨ decide (m * B < A * k) = false ∧ decide (C * k < m * D) = true))
    (HLOOP : Hid (∀ j : Nat, 1 ≤ j → j < q → decide (A * (j : Int) ≤ C * (j : Int) / D * B) = false)) :
    Calls Try.prog 10 #[.agg #[.int .i16 a, .int .i16 b, .int .i16 c, .int .i16 d, .int .i16 e, .int .i16 f']] w fun e w' => e = .returned (.bool true) ∧ Below w.heap.size w w' := by
  obtain ⟨W0, hW⟩ : ∃ W0, W0 = w.alloc (.cells #[.int .i16 a, .int .i16 b, .int .i16 c, .int .i16 d, .int .i16 e, .int .i16 f'] 47) := ⟨_, rfl⟩
  have hb0 : Below w.heap.size w W0 := hW ▸ held_alloc (Below.refl _ w)
  have bx : Box W0 w.heap.size #[.int .i16 a, .int .i16 b, .int .i16 c, .int .i16 d, .int .i16 e, .int .i16 f'] 47 := hW ▸ Box.new w _ _
  have k0 : W0.cell? ⟨w.heap.size, 0, none⟩ = some (.int .i16 a) := bx.cell 0
  have k1 : W0.cell? ⟨w.heap.size, 1, none⟩ = some (.int .i16 b) := bx.cell 1
  have k2 : W0.cell? ⟨w.heap.size, 2, none⟩ = some (.int .i16 c) := bx.cell 2
  have k3 : W0.cell? ⟨w.heap.size, 3, none⟩ = some (.int .i16 d) := bx.cell 3
  have k4 : W0.cell? ⟨w.heap.size, 4, none⟩ = some (.int .i16 e) := bx.cell 4
  have k5 : W0.cell? ⟨w.heap.size, 5, none⟩ = some (.int .i16 f') := bx.cell 5
  have HB0 := Lib.hid hb0
  clear hb0 bx
  have wk : IntKind.i64.wrap k = k := wrap_in (by omega) (by omega)
  have wa : IntKind.i64.wrap a = a := wrap_in (by omega) (by omega)
  have wb : IntKind.i64.wrap b = b := wrap_in (by omega) (by omega)
  have wc : IntKind.i64.wrap c = c := wrap_in (by omega) (by omega)
  have wd : IntKind.i64.wrap d = d := wrap_in (by omega) (by omega)
  have wB : IntKind.i64.wrap B = B := wrap_in (by omega) (by omega)
  have wD : IntKind.i64.wrap D = D := wrap_in (by omega) (by omega)
  go_enter Try.func10, Try.ntmps10
  go_upto_region 1 with fail
  rw [← hW]
  clear hW
  refine wp_region_gj (J := GJ _ (fun _ => SV (fun _ => none) (fun κ => match κ with | 0 => some (.pointer (some ⟨w.heap.size, 0, none⟩)) | 1 => some (.int .i16 a) | 2 => some (.int .i64 a) | 3 => some (.int .i64 A) | 4 => some (.pointer (some ⟨w.heap.size, 1, none⟩)) | 5 => some (.int .i16 b) | 6 => some (.int .i64 b) | 7 => some (.int .i64 B1) | 8 => some (.int .i64 B2) | 9 => some (.int .i64 B) | 10 => some (.pointer (some ⟨w.heap.size, 2, none⟩)) | 11 => some (.int .i16 c) | 12 => some (.int .i64 c) | 13 => some (.int .i64 C) | 14 => some (.pointer (some ⟨w.heap.size, 3, none⟩)) | 15 => some (.int .i16 d) | 16 => some (.int .i64 d) | 17 => some (.int .i64 D1) | 18 => some (.int .i64 D2) | 19 => some (.int .i64 D) | 20 => some (.int .i64 A) | 21 => some (.int .i64 B) | 22 => some (.int .i64 C) | 23 => some (.int .i64 D) | _ => none)) (fun _ _ w => Below W0.heap.size W0 w) _) (by kernel_rfl) ?_ ?_ (GJ.start (below_dr (Below.refl _ _)))
  · intro listed a w9 i hr hj
    obtain ⟨hi12, hun, _, _, _⟩ := ready_mem hr
    have h12 : i ∈ List.range 24 := List.mem_range.2 hi12
    simp only [List.range, List.range.loop, List.mem_cons, List.not_mem_nil, or_false] at h12
    obtain ⟨f, rfl, hcm, hf⟩ := hj.opened [17, 18, 19, 20, 21, 22, 23, 24, 25, 26, 27, 28, 29, 30, 31, 32, 33, 34, 35, 36, 3, 4, 5, 6] (by kernel_rfl)
    have hcm : Below W0.heap.size W0 w9 := hcm
    rcases h12 with rfl | rfl | rfl | rfl | rfl | rfl | rfl | rfl | rfl | rfl | rfl | rfl | rfl | rfl | rfl | rfl | rfl | rfl | rfl | rfl | rfl | rfl | rfl | rfl
    · refine GJ.op hj (by kernel_rfl) hr rfl [17, 18, 19, 20, 21, 22, 23, 24, 25, 26, 27, 28, 29, 30, 31, 32, 33, 34, 35, 36, 3, 4, 5, 6] (by kernel_rfl) (fun K hK => ?_)
      simp only [Act.put, List.foldl_cons, List.foldl_nil, List.setIfInBounds_toArray, List.set_cons_zero, List.set_cons_succ] at hK ⊢
      clear hj hf
      go_simp
      exact hK _ _ (fun k v _ _ h => h.keep (Below.refl _ _)) (fun t ht => SV.eq rfl rfl) hcm
    · have e1 : f 17 = .pointer (some ⟨w.heap.size, 0, none⟩) := (hf 0 _ _ rfl rfl (up_dep hr (by kernel_rfl))).2 _ rfl
      have kc := keep_cell hcm k0
      have klt := World.block_lt_of_cell? _ _ kc
      simp only at klt
      refine GJ.op hj (by kernel_rfl) hr rfl [17, 18, 19, 20, 21, 22, 23, 24, 25, 26, 27, 28, 29, 30, 31, 32, 33, 34, 35, 36, 3, 4, 5, 6] (by kernel_rfl) (fun K hK => ?_)
      simp only [Act.put, List.foldl_cons, List.foldl_nil, List.setIfInBounds_toArray, List.set_cons_zero, List.set_cons_succ] at hK ⊢
      clear hj hf
      rw [e1] at hK ⊢
      clear e1
      go_simp
      exact hK _ _ (fun k v _ _ h => h.keep (Below.refl _ _)) (fun t ht => SV.eq rfl rfl) hcm
    · have e1 : f 18 = .int .i16 a := (hf 1 _ _ rfl rfl (up_dep hr (by kernel_rfl))).2 _ rfl
      refine GJ.op hj (by kernel_rfl) hr rfl [17, 18, 19, 20, 21, 22, 23, 24, 25, 26, 27, 28, 29, 30, 31, 32, 33, 34, 35, 36, 3, 4, 5, 6] (by kernel_rfl) (fun K hK => ?_)
      simp only [Act.put, List.foldl_cons, List.foldl_nil, List.setIfInBounds_toArray, List.set_cons_zero, List.set_cons_succ] at hK ⊢
      clear hj hf
      rw [e1] at hK ⊢
      clear e1
      go_simp
      exact hK _ _ (fun k v _ _ h => h.keep (Below.refl _ _)) (fun t ht => SV.eq rfl rfl) hcm
    · have e1 : f 19 = .int .i64 a := (hf 2 _ _ rfl rfl (up_dep hr (by kernel_rfl))).2 _ rfl
      refine GJ.op hj (by kernel_rfl) hr rfl [17, 18, 19, 20, 21, 22, 23, 24, 25, 26, 27, 28, 29, 30, 31, 32, 33, 34, 35, 36, 3, 4, 5, 6] (by kernel_rfl) (fun K hK => ?_)
      simp only [Act.put, List.foldl_cons, List.foldl_nil, List.setIfInBounds_toArray, List.set_cons_zero, List.set_cons_succ] at hK ⊢
      clear hj hf
      rw [e1] at hK ⊢
      clear e1
      go_simp
      exact hK _ _ (fun k v _ _ h => h.keep (Below.refl _ _)) (fun t ht => SV.eq rfl rfl) hcm
    · refine GJ.op hj (by kernel_rfl) hr rfl [17, 18, 19, 20, 21, 22, 23, 24, 25, 26, 27, 28, 29, 30, 31, 32, 33, 34, 35, 36, 3, 4, 5, 6] (by kernel_rfl) (fun K hK => ?_)
      simp only [Act.put, List.foldl_cons, List.foldl_nil, List.setIfInBounds_toArray, List.set_cons_zero, List.set_cons_succ] at hK ⊢
      clear hj hf
      go_simp
      exact hK _ _ (fun k v _ _ h => h.keep (Below.refl _ _)) (fun t ht => SV.eq rfl rfl) hcm
    · have e1 : f 21 = .pointer (some ⟨w.heap.size, 1, none⟩) := (hf 4 _ _ rfl rfl (up_dep hr (by kernel_rfl))).2 _ rfl
      have kc := keep_cell hcm k1
      have klt := World.block_lt_of_cell? _ _ kc
      simp only at klt
      refine GJ.op hj (by kernel_rfl) hr rfl [17, 18, 19, 20, 21, 22, 23, 24, 25, 26, 27, 28, 29, 30, 31, 32, 33, 34, 35, 36, 3, 4, 5, 6] (by kernel_rfl) (fun K hK => ?_)
      simp only [Act.put, List.foldl_cons, List.foldl_nil, List.setIfInBounds_toArray, List.set_cons_zero, List.set_cons_succ] at hK ⊢
      clear hj hf
      rw [e1] at hK ⊢
      clear e1
      go_simp
      exact hK _ _ (fun k v _ _ h => h.keep (Below.refl _ _)) (fun t ht => SV.eq rfl rfl) hcm
    · have e1 : f 22 = .int .i16 b := (hf 5 _ _ rfl rfl (up_dep hr (by kernel_rfl))).2 _ rfl
      refine GJ.op hj (by kernel_rfl) hr rfl [17, 18, 19, 20, 21, 22, 23, 24, 25, 26, 27, 28, 29, 30, 31, 32, 33, 34, 35, 36, 3, 4, 5, 6] (by kernel_rfl) (fun K hK => ?_)
      simp only [Act.put, List.foldl_cons, List.foldl_nil, List.setIfInBounds_toArray, List.set_cons_zero, List.set_cons_succ] at hK ⊢
      clear hj hf
      rw [e1] at hK ⊢
      clear e1
      go_simp
      exact hK _ _ (fun k v _ _ h => h.keep (Below.refl _ _)) (fun t ht => SV.eq rfl rfl) hcm
    · have e1 : f 23 = .int .i64 b := (hf 6 _ _ rfl rfl (up_dep hr (by kernel_rfl))).2 _ rfl
      refine GJ.op hj (by kernel_rfl) hr rfl [17, 18, 19, 20, 21, 22, 23, 24, 25, 26, 27, 28, 29, 30, 31, 32, 33, 34, 35, 36, 3, 4, 5, 6] (by kernel_rfl) (fun K hK => ?_)
      simp only [Act.put, List.foldl_cons, List.foldl_nil, List.setIfInBounds_toArray, List.set_cons_zero, List.set_cons_succ] at hK ⊢
      clear hj hf
      rw [e1] at hK ⊢
      clear e1
      go_simp
      exact hK _ _ (fun k v _ _ h => h.keep (Below.refl _ _)) (fun t ht => SV.eq rfl rfl) hcm
    · have e1 : f 24 = .int .i64 B1 := (hf 7 _ _ rfl rfl (up_dep hr (by kernel_rfl))).2 _ rfl
      refine GJ.op hj (by kernel_rfl) hr rfl [17, 18, 19, 20, 21, 22, 23, 24, 25, 26, 27, 28, 29, 30, 31, 32, 33, 34, 35, 36, 3, 4, 5, 6] (by kernel_rfl) (fun K hK => ?_)
      simp only [Act.put, List.foldl_cons, List.foldl_nil, List.setIfInBounds_toArray, List.set_cons_zero, List.set_cons_succ] at hK ⊢
      clear hj hf
      rw [e1] at hK ⊢
      clear e1
      go_simp
      exact hK _ _ (fun k v _ _ h => h.keep (Below.refl _ _)) (fun t ht => SV.eq rfl rfl) hcm
    · have e1 : f 25 = .int .i64 B2 := (hf 8 _ _ rfl rfl (up_dep hr (by kernel_rfl))).2 _ rfl
      refine GJ.op hj (by kernel_rfl) hr rfl [17, 18, 19, 20, 21, 22, 23, 24, 25, 26, 27, 28, 29, 30, 31, 32, 33, 34, 35, 36, 3, 4, 5, 6] (by kernel_rfl) (fun K hK => ?_)
      simp only [Act.put, List.foldl_cons, List.foldl_nil, List.setIfInBounds_toArray, List.set_cons_zero, List.set_cons_succ] at hK ⊢
      clear hj hf
      rw [e1] at hK ⊢
      clear e1
      go_simp
      exact hK _ _ (fun k v _ _ h => h.keep (Below.refl _ _)) (fun t ht => SV.eq rfl rfl) hcm
    · refine GJ.op hj (by kernel_rfl) hr rfl [17, 18, 19, 20, 21, 22, 23, 24, 25, 26, 27, 28, 29, 30, 31, 32, 33, 34, 35, 36, 3, 4, 5, 6] (by kernel_rfl) (fun K hK => ?_)
      simp only [Act.put, List.foldl_cons, List.foldl_nil, List.setIfInBounds_toArray, List.set_cons_zero, List.set_cons_succ] at hK ⊢
      clear hj hf
      go_simp
      exact hK _ _ (fun k v _ _ h => h.keep (Below.refl _ _)) (fun t ht => SV.eq rfl rfl) hcm
    · have e1 : f 27 = .pointer (some ⟨w.heap.size, 2, none⟩) := (hf 10 _ _ rfl rfl (up_dep hr (by kernel_rfl))).2 _ rfl
      have kc := keep_cell hcm k2
      have klt := World.block_lt_of_cell? _ _ kc
      simp only at klt
      refine GJ.op hj (by kernel_rfl) hr rfl [17, 18, 19, 20, 21, 22, 23, 24, 25, 26, 27, 28, 29, 30, 31, 32, 33, 34, 35, 36, 3, 4, 5, 6] (by kernel_rfl) (fun K hK => ?_)
      simp only [Act.put, List.foldl_cons, List.foldl_nil, List.setIfInBounds_toArray, List.set_cons_zero, List.set_cons_succ] at hK ⊢
      clear hj hf
      rw [e1] at hK ⊢
      clear e1
      go_simp
      exact hK _ _ (fun k v _ _ h => h.keep (Below.refl _ _)) (fun t ht => SV.eq rfl rfl) hcm
    · have e1 : f 28 = .int .i16 c := (hf 11 _ _ rfl rfl (up_dep hr (by kernel_rfl))).2 _ rfl
      refine GJ.op hj (by kernel_rfl) hr rfl [17, 18, 19, 20, 21, 22, 23, 24, 25, 26, 27, 28, 29, 30, 31, 32, 33, 34, 35, 36, 3, 4, 5, 6] (by kernel_rfl) (fun K hK => ?_)
      simp only [Act.put, List.foldl_cons, List.foldl_nil, List.setIfInBounds_toArray, List.set_cons_zero, List.set_cons_succ] at hK ⊢
      clear hj hf
      rw [e1] at hK ⊢
      clear e1
      go_simp
      exact hK _ _ (fun k v _ _ h => h.keep (Below.refl _ _)) (fun t ht => SV.eq rfl rfl) hcm
    · have e1 : f 29 = .int .i64 c := (hf 12 _ _ rfl rfl (up_dep hr (by kernel_rfl))).2 _ rfl
      refine GJ.op hj (by kernel_rfl) hr rfl [17, 18, 19, 20, 21, 22, 23, 24, 25, 26, 27, 28, 29, 30, 31, 32, 33, 34, 35, 36, 3, 4, 5, 6] (by kernel_rfl) (fun K hK => ?_)
      simp only [Act.put, List.foldl_cons, List.foldl_nil, List.setIfInBounds_toArray, List.set_cons_zero, List.set_cons_succ] at hK ⊢
      clear hj hf
      rw [e1] at hK ⊢
      clear e1
      go_simp
      exact hK _ _ (fun k v _ _ h => h.keep (Below.refl _ _)) (fun t ht => SV.eq rfl rfl) hcm
    · refine GJ.op hj (by kernel_rfl) hr rfl [17, 18, 19, 20, 21, 22, 23, 24, 25, 26, 27, 28, 29, 30, 31, 32, 33, 34, 35, 36, 3, 4, 5, 6] (by kernel_rfl) (fun K hK => ?_)
      simp only [Act.put, List.foldl_cons, List.foldl_nil, List.setIfInBounds_toArray, List.set_cons_zero, List.set_cons_succ] at hK ⊢
      clear hj hf
      go_simp
      exact hK _ _ (fun k v _ _ h => h.keep (Below.refl _ _)) (fun t ht => SV.eq rfl rfl) hcm
    · have e1 : f 31 = .pointer (some ⟨w.heap.size, 3, none⟩) := (hf 14 _ _ rfl rfl (up_dep hr (by kernel_rfl))).2 _ rfl
      have kc := keep_cell hcm k3
      have klt := World.block_lt_of_cell? _ _ kc
      simp only at klt
      refine GJ.op hj (by kernel_rfl) hr rfl [17, 18, 19, 20, 21, 22, 23, 24, 25, 26, 27, 28, 29, 30, 31, 32, 33, 34, 35, 36, 3, 4, 5, 6] (by kernel_rfl) (fun K hK => ?_)
      simp only [Act.put, List.foldl_cons, List.foldl_nil, List.setIfInBounds_toArray, List.set_cons_zero, List.set_cons_succ] at hK ⊢
      clear hj hf
      rw [e1] at hK ⊢
      clear e1
      go_simp
      exact hK _ _ (fun k v _ _ h => h.keep (Below.refl _ _)) (fun t ht => SV.eq rfl rfl) hcm
    · have e1 : f 32 = .int .i16 d := (hf 15 _ _ rfl rfl (up_dep hr (by kernel_rfl))).2 _ rfl
      refine GJ.op hj (by kernel_rfl) hr rfl [17, 18, 19, 20, 21, 22, 23, 24, 25, 26, 27, 28, 29, 30, 31, 32, 33, 34, 35, 36, 3, 4, 5, 6] (by kernel_rfl) (fun K hK => ?_)
      simp only [Act.put, List.foldl_cons, List.foldl_nil, List.setIfInBounds_toArray, List.set_cons_zero, List.set_cons_succ] at hK ⊢
      clear hj hf
      rw [e1] at hK ⊢
      clear e1
      go_simp
      exact hK _ _ (fun k v _ _ h => h.keep (Below.refl _ _)) (fun t ht => SV.eq rfl rfl) hcm
    · have e1 : f 33 = .int .i64 d := (hf 16 _ _ rfl rfl (up_dep hr (by kernel_rfl))).2 _ rfl
      refine GJ.op hj (by kernel_rfl) hr rfl [17, 18, 19, 20, 21, 22, 23, 24, 25, 26, 27, 28, 29, 30, 31, 32, 33, 34, 35, 36, 3, 4, 5, 6] (by kernel_rfl) (fun K hK => ?_)
      simp only [Act.put, List.foldl_cons, List.foldl_nil, List.setIfInBounds_toArray, List.set_cons_zero, List.set_cons_succ] at hK ⊢
      clear hj hf
      rw [e1] at hK ⊢
      clear e1
      go_simp
      exact hK _ _ (fun k v _ _ h => h.keep (Below.refl _ _)) (fun t ht => SV.eq rfl rfl) hcm
    · have e1 : f 34 = .int .i64 D1 := (hf 17 _ _ rfl rfl (up_dep hr (by kernel_rfl))).2 _ rfl
      refine GJ.op hj (by kernel_rfl) hr rfl [17, 18, 19, 20, 21, 22, 23, 24, 25, 26, 27, 28, 29, 30, 31, 32, 33, 34, 35, 36, 3, 4, 5, 6] (by kernel_rfl) (fun K hK => ?_)
      simp only [Act.put, List.foldl_cons, List.foldl_nil, List.setIfInBounds_toArray, List.set_cons_zero, List.set_cons_succ] at hK ⊢
      clear hj hf
      rw [e1] at hK ⊢
      clear e1
      go_simp
      exact hK _ _ (fun k v _ _ h => h.keep (Below.refl _ _)) (fun t ht => SV.eq rfl rfl) hcm
    · have e1 : f 35 = .int .i64 D2 := (hf 18 _ _ rfl rfl (up_dep hr (by kernel_rfl))).2 _ rfl
      refine GJ.op hj (by kernel_rfl) hr rfl [17, 18, 19, 20, 21, 22, 23, 24, 25, 26, 27, 28, 29, 30, 31, 32, 33, 34, 35, 36, 3, 4, 5, 6] (by kernel_rfl) (fun K hK => ?_)
      simp only [Act.put, List.foldl_cons, List.foldl_nil, List.setIfInBounds_toArray, List.set_cons_zero, List.set_cons_succ] at hK ⊢
      clear hj hf
      rw [e1] at hK ⊢
      clear e1
      go_simp
      exact hK _ _ (fun k v _ _ h => h.keep (Below.refl _ _)) (fun t ht => SV.eq rfl rfl) hcm
    · have e1 : f 20 = .int .i64 A := (hf 3 _ _ rfl rfl (up_dep hr (by kernel_rfl))).2 _ rfl
      refine GJ.op hj (by kernel_rfl) hr rfl [17, 18, 19, 20, 21, 22, 23, 24, 25, 26, 27, 28, 29, 30, 31, 32, 33, 34, 35, 36, 3, 4, 5, 6] (by kernel_rfl) (fun K hK => ?_)
      simp only [Act.put, List.foldl_cons, List.foldl_nil, List.setIfInBounds_toArray, List.set_cons_zero, List.set_cons_succ] at hK ⊢
      clear hj hf
      rw [e1] at hK ⊢
      clear e1
      go_simp
      exact hK _ _ (fun k v _ _ h => h.keep (Below.refl _ _)) (fun t ht => SV.eq rfl rfl) hcm
    · have e1 : f 26 = .int .i64 B := (hf 9 _ _ rfl rfl (up_dep hr (by kernel_rfl))).2 _ rfl
      refine GJ.op hj (by kernel_rfl) hr rfl [17, 18, 19, 20, 21, 22, 23, 24, 25, 26, 27, 28, 29, 30, 31, 32, 33, 34, 35, 36, 3, 4, 5, 6] (by kernel_rfl) (fun K hK => ?_)
      simp only [Act.put, List.foldl_cons, List.foldl_nil, List.setIfInBounds_toArray, List.set_cons_zero, List.set_cons_succ] at hK ⊢
      clear hj hf
      rw [e1] at hK ⊢
      clear e1
      go_simp
      exact hK _ _ (fun k v _ _ h => h.keep (Below.refl _ _)) (fun t ht => SV.eq rfl rfl) hcm
    · have e1 : f 30 = .int .i64 C := (hf 13 _ _ rfl rfl (up_dep hr (by kernel_rfl))).2 _ rfl
      refine GJ.op hj (by kernel_rfl) hr rfl [17, 18, 19, 20, 21, 22, 23, 24, 25, 26, 27, 28, 29, 30, 31, 32, 33, 34, 35, 36, 3, 4, 5, 6] (by kernel_rfl) (fun K hK => ?_)
      simp only [Act.put, List.foldl_cons, List.foldl_nil, List.setIfInBounds_toArray, List.set_cons_zero, List.set_cons_succ] at hK ⊢
      clear hj hf
      rw [e1] at hK ⊢
      clear e1
      go_simp
      exact hK _ _ (fun k v _ _ h => h.keep (Below.refl _ _)) (fun t ht => SV.eq rfl rfl) hcm
    · have e1 : f 36 = .int .i64 D := (hf 19 _ _ rfl rfl (up_dep hr (by kernel_rfl))).2 _ rfl
      refine GJ.op hj (by kernel_rfl) hr rfl [17, 18, 19, 20, 21, 22, 23, 24, 25, 26, 27, 28, 29, 30, 31, 32, 33, 34, 35, 36, 3, 4, 5, 6] (by kernel_rfl) (fun K hK => ?_)
      simp only [Act.put, List.foldl_cons, List.foldl_nil, List.setIfInBounds_toArray, List.set_cons_zero, List.set_cons_succ] at hK ⊢
      clear hj hf
      rw [e1] at hK ⊢
      clear e1
      go_simp
      exact hK _ _ (fun k v _ _ h => h.keep (Below.refl _ _)) (fun t ht => SV.eq rfl rfl) hcm
  · intro listed a w10 hr hj
    have hu : ∀ k, k < 24 → up listed k := fun k hk => all_up (by kernel_rfl) hj.lsize hr k hk
    obtain ⟨f, rfl, hcm, hf⟩ := hj.opened [17, 18, 19, 20, 21, 22, 23, 24, 25, 26, 27, 28, 29, 30, 31, 32, 33, 34, 35, 36, 3, 4, 5, 6] (by kernel_rfl)
    replace hcm : Below W0.heap.size W0 w10 := hcm
    have e3 : f 3 = .int .i64 A := (hf 20 _ _ rfl rfl (hu 20 (by omega))).2 _ rfl
    have e4 : f 4 = .int .i64 B := (hf 21 _ _ rfl rfl (hu 21 (by omega))).2 _ rfl
    have e5 : f 5 = .int .i64 C := (hf 22 _ _ rfl rfl (hu 22 (by omega))).2 _ rfl
    have e6 : f 6 = .int .i64 D := (hf 23 _ _ rfl rfl (hu 23 (by omega))).2 _ rfl
    have HB : Hid (Below w.heap.size w w10) := HB0.out.trans (hcm.mono HB0.out.size)
    clear hf hj hr hu hcm k0 k1 k2 k3 k4 k5
    simp only [List.foldl_cons, List.foldl_nil, List.setIfInBounds_toArray, List.set_cons_zero, List.set_cons_succ]
    rw [e3, e4, e5, e6]
    clear e3 e4 e5 e6
    generalize f 17 = g17
    generalize f 18 = g18
    generalize f 19 = g19
    generalize f 20 = g20
    generalize f 21 = g21
    generalize f 22 = g22
    generalize f 23 = g23
    generalize f 24 = g24
    generalize f 25 = g25
    generalize f 26 = g26
    generalize f 27 = g27
    generalize f 28 = g28
    generalize f 29 = g29
    generalize f 30 = g30
    generalize f 31 = g31
    generalize f 32 = g32
    generalize f 33 = g33
    generalize f 34 = g34
    generalize f 35 = g35
    generalize f 36 = g36
    clear f
    go_wp2_with fail
    refine (ROf_c _ A B (by omega) (by omega) (by omega) (by omega)).mono ?_
    rw [HLO.out]
    rintro e w11 ⟨v, rfl, hv, hb11⟩
    have hv : IsF _ v (LO) := hv
    obtain ⟨va, vb, rfl, h1, h2⟩ := hv
    obtain ⟨pL, mL, rfl, _, _⟩ := h1.shape
    obtain ⟨qL, nL, rfl, _, _⟩ := h2.shape
    have FL := Lib.hid (IsF.at_ h1 h2)
    clear h1 h2
    replace HB := Lib.hid (HB.out.trans (hb11.mono HB.out.size))
    clear hb11
    have g_L : w.heap.size ≤ w11.heap.size := by have := HB.out.size; omega
    go_wp2_with fail
    refine (ROf_c _ C D (by omega) (by omega) (by omega) (by omega)).mono ?_
    rw [HHI.out]
    rintro e w12 ⟨v, rfl, hv, hb12⟩
    have hv : IsF _ v (HI) := hv
    obtain ⟨va, vb, rfl, h1, h2⟩ := hv
    obtain ⟨pH, mH, rfl, _, _⟩ := h1.shape
    obtain ⟨qH, nH, rfl, _, _⟩ := h2.shape
    have FH := Lib.hid (IsF.at_ h1 h2)
    clear h1 h2
    obtain ⟨hb12, CL⟩ := after_new hb12
    replace CL := Lib.hid CL
    replace FL := Lib.hid (FL.out.after hb12)
    replace HB := Lib.hid (HB.out.trans (hb12.mono HB.out.size))
    clear hb12
    have d_L_H : w11.heap.size < w12.heap.size := CL.out.lt
    have g_H : w.heap.size ≤ w12.heap.size := by have := HB.out.size; omega
    obtain ⟨cL0, cL1, cL2⟩ := CL.out.cells3
    have ltL := CL.out.lt
    go_wp2_with fail
    refine (Simplest_c _ _ _ LO HI (FL.out.alloc _) (FH.out.alloc _)).mono ?_
    rw [HS.out]
    rintro e w13 ⟨v, rfl, hv, hb13⟩
    have hv : IsF _ v (fr false p q) := hv
    obtain ⟨va, vb, rfl, h1, h2⟩ := hv
    obtain ⟨pZ, mZ, rfl, _, _⟩ := h1.shape
    obtain ⟨qZ, nZ, rfl, _, _⟩ := h2.shape
    have FZ := Lib.hid (IsF.at_ h1 h2)
    clear h1 h2
    clear cL0 cL1 cL2 ltL
    obtain ⟨hb13, CH⟩ := after_new hb13
    replace CH := Lib.hid CH
    replace CL := Lib.hid (CL.out.after hb13)
    replace FL := Lib.hid (FL.out.after hb13)
    replace FH := Lib.hid (FH.out.after hb13)
    replace HB := Lib.hid (HB.out.trans (hb13.mono HB.out.size))
    clear hb13
    have d_L_Z : w11.heap.size < w13.heap.size := CL.out.lt
    have d_H_Z : w12.heap.size < w13.heap.size := CH.out.lt
    have g_Z : w.heap.size ≤ w13.heap.size := by have := HB.out.size; omega
    obtain ⟨cL0, cL1, cL2⟩ := CL.out.cells3
    have ltL := CL.out.lt
    obtain ⟨cH0, cH1, cH2⟩ := CH.out.cells3
    have ltH := CH.out.lt
    go_wp2_with fail
    refine (Valid_c _ _ (fr false p q) (FZ.out.alloc _)).mono ?_
    intro e w14 hr
    obtain ⟨rfl, hb14⟩ := hr.yes HVZ.out
    clear hr
    clear cL0 cL1 cL2 ltL cH0 cH1 cH2 ltH
    obtain ⟨hb14, CZ⟩ := after_new hb14
    replace CZ := Lib.hid CZ
    replace CL := Lib.hid (CL.out.after hb14)
    replace CH := Lib.hid (CH.out.after hb14)
    replace FL := Lib.hid (FL.out.after hb14)
    replace FH := Lib.hid (FH.out.after hb14)
    replace FZ := Lib.hid (FZ.out.after hb14)
    replace HB := Lib.hid (HB.out.trans (hb14.mono HB.out.size))
    clear hb14
    obtain ⟨_, i1, i2⟩ := FZ.out.parts
    replace i1 : Sl _ _ (limbs p) := i1
    replace i2 : Sl _ _ (limbs q) := i2
    rw [HLQ.out] at i2
    obtain ⟨bq, oq, cq, eq1, _, _, kq, lq⟩ := i2.one_cell
    simp only [fr, HLQ.out, List.length_cons, List.length_nil, Nat.zero_add] at eq1
    injection eq1 with eq1 _ eq3
    subst eq1 eq3
    rw [HLP.out] at i1
    obtain ⟨bp, op, cp, ep1, _, _, kp, lp⟩ := i1.one_cell
    simp only [fr, HLP.out, List.length_cons, List.length_nil, Nat.zero_add] at ep1
    injection ep1 with ep1 _ ep3
    subst ep1 ep3
    simp only [fr, HLQ.out, HLP.out, List.length_cons, List.length_nil, Nat.zero_add] at CZ
    clear i1 i2 FL FH FZ
    obtain ⟨cL0, cL1, cL2⟩ := CL.out.cells3
    have ltL := CL.out.lt
    obtain ⟨cH0, cH1, cH2⟩ := CH.out.cells3
    have ltH := CH.out.lt
    obtain ⟨cZ0, cZ1, cZ2⟩ := CZ.out.cells3
    have ltZ := CZ.out.lt
    go_upto_region 9 with fail
    have KQ := Lib.hid kq
    have KP := Lib.hid kp
    clear kq kp
    clear CL
    clear CH
    clear cL0 cL1 cL2 ltL cH0 cH1 cH2 ltH cZ0 cZ1 cZ2 ltZ
    refine wp_region_gj (J := GJ _ (fun _ => SV (fun _ => none) (fun κ => match κ with | 0 => some (.pointer (some ⟨w13.heap.size, 2, none⟩)) | 1 => some (.slice (some ⟨bq, oq, none⟩) 1 nZ) | 2 => some (.pointer (some ⟨bq, oq, none⟩)) | 3 => some (.int .u32 k) | 4 => some (.int .i64 k) | 5 => some (.int .i64 0) | 6 => some (.int .i64 k) | _ => none)) (fun _ _ w => Below w14.heap.size w14 w) _) (by kernel_rfl) ?_ ?_ (GJ.start (below_dr (Below.refl _ _)))
    · intro listed a w9 i hr hj
      obtain ⟨hi12, hun, _, _, _⟩ := ready_mem hr
      have h12 : i ∈ List.range 7 := List.mem_range.2 hi12
      simp only [List.range, List.range.loop, List.mem_cons, List.not_mem_nil, or_false] at h12
      obtain ⟨f, rfl, hcm, hf⟩ := hj.opened [92, 93, 94, 95, 96, 13, 14] (by kernel_rfl)
      have hcm : Below w14.heap.size w14 w9 := hcm
      rcases h12 with rfl | rfl | rfl | rfl | rfl | rfl | rfl
      · refine GJ.op hj (by kernel_rfl) hr rfl [92, 93, 94, 95, 96, 13, 14] (by kernel_rfl) (fun K hK => ?_)
        simp only [Act.put, List.foldl_cons, List.foldl_nil, List.setIfInBounds_toArray, List.set_cons_zero, List.set_cons_succ] at hK ⊢
        clear hj hf
        go_simp
        exact hK _ _ (fun k v _ _ h => h.keep (Below.refl _ _)) (fun t ht => SV.eq rfl rfl) hcm
      · have e1 : f 92 = .pointer (some ⟨w13.heap.size, 2, none⟩) := (hf 0 _ _ rfl rfl (up_dep hr (by kernel_rfl))).2 _ rfl
        obtain ⟨k0, k1, k2⟩ := (CZ.out.after hcm).cells3
        have klt := (CZ.out.after hcm).lt
        refine GJ.op hj (by kernel_rfl) hr rfl [92, 93, 94, 95, 96, 13, 14] (by kernel_rfl) (fun K hK => ?_)
        simp only [Act.put, List.foldl_cons, List.foldl_nil, List.setIfInBounds_toArray, List.set_cons_zero, List.set_cons_succ] at hK ⊢
        clear hj hf
        rw [e1] at hK ⊢
        clear e1
        go_simp
        exact hK _ _ (fun k v _ _ h => h.keep (Below.refl _ _)) (fun t ht => SV.eq rfl rfl) hcm
      · have e1 : f 93 = .slice (some ⟨bq, oq, none⟩) 1 nZ := (hf 1 _ _ rfl rfl (up_dep hr (by kernel_rfl))).2 _ rfl
        refine GJ.op hj (by kernel_rfl) hr rfl [92, 93, 94, 95, 96, 13, 14] (by kernel_rfl) (fun K hK => ?_)
        simp only [Act.put, List.foldl_cons, List.foldl_nil, List.setIfInBounds_toArray, List.set_cons_zero, List.set_cons_succ] at hK ⊢
        clear hj hf
        rw [e1] at hK ⊢
        clear e1
        go_simp
        exact hK _ _ (fun k v _ _ h => h.keep (Below.refl _ _)) (fun t ht => SV.eq rfl rfl) hcm
      · have e1 : f 94 = .pointer (some ⟨bq, oq, none⟩) := (hf 2 _ _ rfl rfl (up_dep hr (by kernel_rfl))).2 _ rfl
        have kc := keep_cell hcm KQ.out
        have klt := World.block_lt_of_cell? _ _ kc
        simp only at klt
        refine GJ.op hj (by kernel_rfl) hr rfl [92, 93, 94, 95, 96, 13, 14] (by kernel_rfl) (fun K hK => ?_)
        simp only [Act.put, List.foldl_cons, List.foldl_nil, List.setIfInBounds_toArray, List.set_cons_zero, List.set_cons_succ] at hK ⊢
        clear hj hf
        rw [e1] at hK ⊢
        clear e1
        go_simp
        exact hK _ _ (fun k v _ _ h => h.keep (Below.refl _ _)) (fun t ht => SV.eq rfl rfl) hcm
      · have e1 : f 95 = .int .u32 k := (hf 3 _ _ rfl rfl (up_dep hr (by kernel_rfl))).2 _ rfl
        refine GJ.op hj (by kernel_rfl) hr rfl [92, 93, 94, 95, 96, 13, 14] (by kernel_rfl) (fun K hK => ?_)
        simp only [Act.put, List.foldl_cons, List.foldl_nil, List.setIfInBounds_toArray, List.set_cons_zero, List.set_cons_succ] at hK ⊢
        clear hj hf
        rw [e1] at hK ⊢
        clear e1
        go_simp
        exact hK _ _ (fun k v _ _ h => h.keep (Below.refl _ _)) (fun t ht => SV.eq rfl rfl) hcm
      · refine GJ.op hj (by kernel_rfl) hr rfl [92, 93, 94, 95, 96, 13, 14] (by kernel_rfl) (fun K hK => ?_)
        simp only [Act.put, List.foldl_cons, List.foldl_nil, List.setIfInBounds_toArray, List.set_cons_zero, List.set_cons_succ] at hK ⊢
        clear hj hf
        go_simp
        exact hK _ _ (fun k v _ _ h => h.keep (Below.refl _ _)) (fun t ht => SV.eq rfl rfl) hcm
      · have e1 : f 96 = .int .i64 k := (hf 4 _ _ rfl rfl (up_dep hr (by kernel_rfl))).2 _ rfl
        refine GJ.op hj (by kernel_rfl) hr rfl [92, 93, 94, 95, 96, 13, 14] (by kernel_rfl) (fun K hK => ?_)
        simp only [Act.put, List.foldl_cons, List.foldl_nil, List.setIfInBounds_toArray, List.set_cons_zero, List.set_cons_succ] at hK ⊢
        clear hj hf
        rw [e1] at hK ⊢
        clear e1
        go_simp
        exact hK _ _ (fun k v _ _ h => h.keep (Below.refl _ _)) (fun t ht => SV.eq rfl rfl) hcm
    · intro listed a w15 hr hj
      have hu : ∀ k, k < 7 → up listed k := fun k hk => all_up (by kernel_rfl) hj.lsize hr k hk
      obtain ⟨f, rfl, hcm, hf⟩ := hj.opened [92, 93, 94, 95, 96, 13, 14] (by kernel_rfl)
      replace hcm : Below w14.heap.size w14 w15 := hcm
      have e13 : f 13 = .int .i64 0 := (hf 5 _ _ rfl rfl (hu 5 (by omega))).2 _ rfl
      have e14 : f 14 = .int .i64 k := (hf 6 _ _ rfl rfl (hu 6 (by omega))).2 _ rfl
      replace HB : Hid (Below w.heap.size w w15) := Lib.hid (HB.out.trans (hcm.mono HB.out.size))
      replace CZ := Lib.hid (CZ.out.after hcm)
      replace lq := Nat.lt_of_lt_of_le lq hcm.size
      have kq := keep_cell hcm KQ.out
      have kp := keep_cell hcm KP.out
      replace lp := Nat.lt_of_lt_of_le lp hcm.size
      clear hf hj hr hu hcm KQ KP
      simp only [List.foldl_cons, List.foldl_nil, List.setIfInBounds_toArray, List.set_cons_zero, List.set_cons_succ]
      rw [e13, e14]
      clear e13 e14
      generalize f 92 = g92
      generalize f 93 = g93
      generalize f 94 = g94
      generalize f 95 = g95
      generalize f 96 = g96
      clear f
      obtain ⟨cZ0, cZ1, cZ2⟩ := CZ.out.cells3
      have ltZ := CZ.out.lt
      go_wp2_with fail
      clear cZ0 cZ1 cZ2 ltZ
      clear CZ HLO HHI HS HVZ HLQ HLP kq lq kp lp
      clear g_L d_L_H g_H d_L_Z d_H_Z g_Z
      go_loopg [15] (q - 1) (fun g t wx => ∃ j : Nat, 1 ≤ j ∧ j ≤ q ∧ g = q - j ∧ t = .int .i64 (j : Int) ∧ Hid (Below w.heap.size w wx))
      case atStart => exact ⟨1, Nat.le_refl _, hq0, rfl, rfl, HB.out⟩
      case round =>
        obtain ⟨j, hj1, hjq, rfl, rfl, hbl⟩ := hrel
        clear HB
        by_cases hlt : j < q
        · have hjk : (j : Int) < k := by omega
          have hdj : decide ((j : Int) < k) = true := decide_eq_true hjk
          have hbad := HLOOP.out j hj1 hlt
          have b1 := mulb (x := C) (y := (j : Int)) (X := 300) (Y := 60) (by omega) (by omega) (by omega) (by omega)
          have b2 := floor_bd (n := C * (j : Int)) (d := D) (X := 300 * 60) (by omega) b1.1 b1.2
          obtain ⟨G, hG⟩ : ∃ G, C * (j : Int) / D = G := ⟨_, rfl⟩
          rw [hG] at b2 hbad
          have b3 := mulb (x := G) (y := B) (X := 20000) (Y := 60) (by omega) (by omega) (by omega) (by omega)
          have b4 := mulb (x := A) (y := (j : Int)) (X := 300) (Y := 60) (by omega) (by omega) (by omega) (by omega)
          obtain ⟨b1a, b1b⟩ := b1
          obtain ⟨b3a, b3b⟩ := b3
          obtain ⟨b4a, b4b⟩ := b4
          have hG2 := Lib.hid hG
          clear b2 hG
          go_wp2_with fail
          refine (floor_c _ (C * (j : Int)) D (by omega) (by omega) (by omega)).mono ?_
          rw [hG2.out]
          rintro e w20 ⟨rfl, hb20⟩
          replace hbl := Lib.hid (hbl.out.trans (hb20.mono hbl.out.size))
          clear hb20 hG2
          go_wp2_with fail
          go_roundg (q - (j + 1))
          case measure => omega
          case rel => exact ⟨j + 1, by omega, by omega, rfl, by go_num, hbl⟩
        · obtain rfl : j = q := by omega
          have hdj : decide (k < k) = false := decide_eq_false (by omega)
          clear hlt HLOOP
          rcases HM.out with hm1 | ⟨hm1, hm2⟩
          · go_wp2_with fail
            refine (rworks_c _).mono ?_
            rintro e w21 ⟨rfl, hb21⟩
            replace hbl := Lib.hid (hbl.out.trans (hb21.mono hbl.out.size))
            clear hb21
            go_wp2_with fail
            go_ret
            exact ⟨rfl, hbl.out⟩
          · go_wp2_with fail
            refine (rworks_c _).mono ?_
            rintro e w21 ⟨rfl, hb21⟩
            replace hbl := Lib.hid (hbl.out.trans (hb21.mono hbl.out.size))
            clear hb21
            go_wp2_with fail
            go_ret
            exact ⟨rfl, hbl.out⟩
set_option maxRecDepth 100000 in
set_option maxHeartbeats 16000000 in
theorem simplest_0n (w : World) (a b c d e f' : Int) (a0 : -32768 ≤ a) (a1 : a ≤ 32767) (b0 : -32768 ≤ b) (b1 : b ≤ 32767) (c0 : -32768 ≤ c) (c1 : c ≤ 32767) (d0 : -32768 ≤ d) (d1 : d ≤ 32767)
    (A B1 B2 B C D1 D2 D k : Int) (q p : Nat) (LO HI : F) (hA : a.tmod 300 = A) (hB1 : bits .and .i64 b 1023 = B1) (hB2 : B1.tmod 60 = B2) (hB3 : B1 % 60 = B2) (hB : 1 + B2 = B) (hC : c.tmod 300 = C) (hD1 : bits .and .i64 d 1023 = D1) (hD2 : D1.tmod 60 = D2) (hD3 : D1 % 60 = D2) (hD : 1 + D2 = D)
    (Al : -299 ≤ A) (Ah : A ≤ 299) (B1l : 0 ≤ B1) (B1h : B1 ≤ 1023) (B2l : 0 ≤ B2) (B2h : B2 ≤ 59) (Bl : 1 ≤ B) (Bh : B ≤ 60) (Cl : -299 ≤ C) (Ch : C ≤ 299) (D1l : 0 ≤ D1) (D1h : D1 ≤ 1023) (D2l : 0 ≤ D2) (D2h : D2 ≤ 59) (Dl : 1 ≤ D) (Dh : D ≤ 60)
    (pAD : -18000 ≤ A * D) (pAD' : A * D ≤ 18000) (pCB : -18000 ≤ C * B) (pCB' : C * B ≤ 18000) (hsw : decide (C * B < A * D) = false)
    (HLO : Hid (ofF A B = (LO, 0))) (HHI : Hid (ofF C D = (HI, 0))) (HS : Hid (simplestF LO HI = (fr true p q, 0))) (HVZ : Hid (ValidF (fr true p q))) (HLQ : Hid (limbs q = [q])) (hq0 : 1 ≤ q) (hq1 : q ≤ 60) (hq2 : decide (60 < q) = false) (hk : (q : Int) = k) (kl : 1 ≤ k) (kh : k ≤ 60)
    (pxk : -18000 ≤ A * k) (pxk' : A * k ≤ 18000) (puk : -18000 ≤ C * k) (puk' : C * k ≤ 18000)
    (n m : Int) (hp0 : 0 < p) (hp1 : p < 300) (HLP : Hid (limbs p = [p])) (hn : -(p : Int) = n) (nl : -300 ≤ n) (nh : n ≤ 300) (hm : n + 1 = m) (ml : -300 ≤ m) (mh : m ≤ 300) (hn0 : decide (n < 0) = true) (hnz : (n == 0) = false)
    (pny : -18000 ≤ n * B) (pny' : n * B ≤ 18000) (pnv : -18000 ≤ n * D) (pnv' : n * D ≤ 18000) (h1 : decide (n * B < A * k) = false) (h2 : decide (C * k < n * D) = false)
    (pmy : -18000 ≤ m * B) (pmy' : m * B ≤ 18000) (pmv : -18000 ≤ m * D) (pmv' : m * D ≤ 18000) (HM : Hid (decide (m * B < A * k) = true ∨ decide (m * B < A * k) = false ∧ decide (C * k < m * D) = true))
    (HLOOP : Hid (∀ j : Nat, 1 ≤ j → j < q → decide (A * (j : Int) ≤ C * (j : Int) / D * B) = false)) :
    Calls Try.prog 10 #[.agg #[.int .i16 a, .int .i16 b, .int .i16 c, .int .i16 d, .int .i16 e, .int .i16 f']] w fun e w' => e = .returned (.bool true) ∧ Below w.heap.size w w' := by
  obtain ⟨W0, hW⟩ : ∃ W0, W0 = w.alloc (.cells #[.int .i16 a, .int .i16 b, .int .i16 c, .int .i16 d, .int .i16 e, .int .i16 f'] 47) := ⟨_, rfl⟩
  have hb0 : Below w.heap.size w W0 := hW ▸ held_alloc (Below.refl _ w)
  have bx : Box W0 w.heap.size #[.int .i16 a, .int .i16 b, .int .i16 c, .int .i16 d, .int .i16 e, .int .i16 f'] 47 := hW ▸ Box.new w _ _
  have k0 : W0.cell? ⟨w.heap.size, 0, none⟩ = some (.int .i16 a) := bx.cell 0
  have k1 : W0.cell? ⟨w.heap.size, 1, none⟩ = some (.int .i16 b) := bx.cell 1
  have k2 : W0.cell? ⟨w.heap.size, 2, none⟩ = some (.int .i16 c) := bx.cell 2
  have k3 : W0.cell? ⟨w.heap.size, 3, none⟩ = some (.int .i16 d) := bx.cell 3
  have k4 : W0.cell? ⟨w.heap.size, 4, none⟩ = some (.int .i16 e) := bx.cell 4
  have k5 : W0.cell? ⟨w.heap.size, 5, none⟩ = some (.int .i16 f') := bx.cell 5
  have HB0 := Lib.hid hb0
  clear hb0 bx
  have wk : IntKind.i64.wrap k = k := wrap_in (by omega) (by omega)
  have wa : IntKind.i64.wrap a = a := wrap_in (by omega) (by omega)
  have wb : IntKind.i64.wrap b = b := wrap_in (by omega) (by omega)
  have wc : IntKind.i64.wrap c = c := wrap_in (by omega) (by omega)
  have wd : IntKind.i64.wrap d = d := wrap_in (by omega) (by omega)
  have wB : IntKind.i64.wrap B = B := wrap_in (by omega) (by omega)
  have wD : IntKind.i64.wrap D = D := wrap_in (by omega) (by omega)
  go_enter Try.func10, Try.ntmps10
  go_upto_region 1 with fail
  rw [← hW]
  clear hW
  refine wp_region_gj (J := GJ _ (fun _ => SV (fun _ => none) (fun κ => match κ with | 0 => some (.pointer (some ⟨w.heap.size, 0, none⟩)) | 1 => some (.int .i16 a) | 2 => some (.int .i64 a) | 3 => some (.int .i64 A) | 4 => some (.pointer (some ⟨w.heap.size, 1, none⟩)) | 5 => some (.int .i16 b) | 6 => some (.int .i64 b) | 7 => some (.int .i64 B1) | 8 => some (.int .i64 B2) | 9 => some (.int .i64 B) | 10 => some (.pointer (some ⟨w.heap.size, 2, none⟩)) | 11 => some (.int .i16 c) | 12 => some (.int .i64 c) | 13 => some (.int .i64 C) | 14 => some (.pointer (some ⟨w.heap.size, 3, none⟩)) | 15 => some (.int .i16 d) | 16 => some (.int .i64 d) | 17 => some (.int .i64 D1) | 18 => some (.int .i64 D2) | 19 => some (.int .i64 D) | 20 => some (.int .i64 A) | 21 => some (.int .i64 B) | 22 => some (.int .i64 C) | 23 => some (.int .i64 D) | _ => none)) (fun _ _ w => Below W0.heap.size W0 w) _) (by kernel_rfl) ?_ ?_ (GJ.start (below_dr (Below.refl _ _)))
  · intro listed a w9 i hr hj
    obtain ⟨hi12, hun, _, _, _⟩ := ready_mem hr
    have h12 : i ∈ List.range 24 := List.mem_range.2 hi12
    simp only [List.range, List.range.loop, List.mem_cons, List.not_mem_nil, or_false] at h12
    obtain ⟨f, rfl, hcm, hf⟩ := hj.opened [17, 18, 19, 20, 21, 22, 23, 24, 25, 26, 27, 28, 29, 30, 31, 32, 33, 34, 35, 36, 3, 4, 5, 6] (by kernel_rfl)
    have hcm : Below W0.heap.size W0 w9 := hcm
    rcases h12 with rfl | rfl | rfl | rfl | rfl | rfl | rfl | rfl | rfl | rfl | rfl | rfl | rfl | rfl | rfl | rfl | rfl | rfl | rfl | rfl | rfl | rfl | rfl | rfl
    · refine GJ.op hj (by kernel_rfl) hr rfl [17, 18, 19, 20, 21, 22, 23, 24, 25, 26, 27, 28, 29, 30, 31, 32, 33, 34, 35, 36, 3, 4, 5, 6] (by kernel_rfl) (fun K hK => ?_)
      simp only [Act.put, List.foldl_cons, List.foldl_nil, List.setIfInBounds_toArray, List.set_cons_zero, List.set_cons_succ] at hK ⊢
      clear hj hf
      go_simp
      exact hK _ _ (fun k v _ _ h => h.keep (Below.refl _ _)) (fun t ht => SV.eq rfl rfl) hcm
    · have e1 : f 17 = .pointer (some ⟨w.heap.size, 0, none⟩) := (hf 0 _ _ rfl rfl (up_dep hr (by kernel_rfl))).2 _ rfl
      have kc := keep_cell hcm k0
      have klt := World.block_lt_of_cell? _ _ kc
      simp only at klt
      refine GJ.op hj (by kernel_rfl) hr rfl [17, 18, 19, 20, 21, 22, 23, 24, 25, 26, 27, 28, 29, 30, 31, 32, 33, 34, 35, 36, 3, 4, 5, 6] (by kernel_rfl) (fun K hK => ?_)
      simp only [Act.put, List.foldl_cons, List.foldl_nil, List.setIfInBounds_toArray, List.set_cons_zero, List.set_cons_succ] at hK ⊢
      clear hj hf
      rw [e1] at hK ⊢
      clear e1
      go_simp
      exact hK _ _ (fun k v _ _ h => h.keep (Below.refl _ _)) (fun t ht => SV.eq rfl rfl) hcm
    · have e1 : f 18 = .int .i16 a := (hf 1 _ _ rfl rfl (up_dep hr (by kernel_rfl))).2 _ rfl
      refine GJ.op hj (by kernel_rfl) hr rfl [17, 18, 19, 20, 21, 22, 23, 24, 25, 26, 27, 28, 29, 30, 31, 32, 33, 34, 35, 36, 3, 4, 5, 6] (by kernel_rfl) (fun K hK => ?_)
      simp only [Act.put, List.foldl_cons, List.foldl_nil, List.setIfInBounds_toArray, List.set_cons_zero, List.set_cons_succ] at hK ⊢
      clear hj hf
      rw [e1] at hK ⊢
      clear e1
      go_simp
      exact hK _ _ (fun k v _ _ h => h.keep (Below.refl _ _)) (fun t ht => SV.eq rfl rfl) hcm
    · have e1 : f 19 = .int .i64 a := (hf 2 _ _ rfl rfl (up_dep hr (by kernel_rfl))).2 _ rfl
      refine GJ.op hj (by kernel_rfl) hr rfl [17, 18, 19, 20, 21, 22, 23, 24, 25, 26, 27, 28, 29, 30, 31, 32, 33, 34, 35, 36, 3, 4, 5, 6] (by kernel_rfl) (fun K hK => ?_)
      simp only [Act.put, List.foldl_cons, List.foldl_nil, List.setIfInBounds_toArray, List.set_cons_zero, List.set_cons_succ] at hK ⊢
      clear hj hf
      rw [e1] at hK ⊢
      clear e1
      go_simp
      exact hK _ _ (fun k v _ _ h => h.keep (Below.refl _ _)) (fun t ht => SV.eq rfl rfl) hcm
    · refine GJ.op hj (by kernel_rfl) hr rfl [17, 18, 19, 20, 21, 22, 23, 24, 25, 26, 27, 28, 29, 30, 31, 32, 33, 34, 35, 36, 3, 4, 5, 6] (by kernel_rfl) (fun K hK => ?_)
      simp only [Act.put, List.foldl_cons, List.foldl_nil, List.setIfInBounds_toArray, List.set_cons_zero, List.set_cons_succ] at hK ⊢
      clear hj hf
      go_simp
      exact hK _ _ (fun k v _ _ h => h.keep (Below.refl _ _)) (fun t ht => SV.eq rfl rfl) hcm
    · have e1 : f 21 = .pointer (some ⟨w.heap.size, 1, none⟩) := (hf 4 _ _ rfl rfl (up_dep hr (by kernel_rfl))).2 _ rfl
      have kc := keep_cell hcm k1
      have klt := World.block_lt_of_cell? _ _ kc
      simp only at klt
      refine GJ.op hj (by kernel_rfl) hr rfl [17, 18, 19, 20, 21, 22, 23, 24, 25, 26, 27, 28, 29, 30, 31, 32, 33, 34, 35, 36, 3, 4, 5, 6] (by kernel_rfl) (fun K hK => ?_)
      simp only [Act.put, List.foldl_cons, List.foldl_nil, List.setIfInBounds_toArray, List.set_cons_zero, List.set_cons_succ] at hK ⊢
      clear hj hf
      rw [e1] at hK ⊢
      clear e1
      go_simp
      exact hK _ _ (fun k v _ _ h => h.keep (Below.refl _ _)) (fun t ht => SV.eq rfl rfl) hcm
    · have e1 : f 22 = .int .i16 b := (hf 5 _ _ rfl rfl (up_dep hr (by kernel_rfl))).2 _ rfl
      refine GJ.op hj (by kernel_rfl) hr rfl [17, 18, 19, 20, 21, 22, 23, 24, 25, 26, 27, 28, 29, 30, 31, 32, 33, 34, 35, 36, 3, 4, 5, 6] (by kernel_rfl) (fun K hK => ?_)
      simp only [Act.put, List.foldl_cons, List.foldl_nil, List.setIfInBounds_toArray, List.set_cons_zero, List.set_cons_succ] at hK ⊢
      clear hj hf
      rw [e1] at hK ⊢
      clear e1
      go_simp
      exact hK _ _ (fun k v _ _ h => h.keep (Below.refl _ _)) (fun t ht => SV.eq rfl rfl) hcm
    · have e1 : f 23 = .int .i64 b := (hf 6 _ _ rfl rfl (up_dep hr (by kernel_rfl))).2 _ rfl
      refine GJ.op hj (by kernel_rfl) hr rfl [17, 18, 19, 20, 21, 22, 23, 24, 25, 26, 27, 28, 29, 30, 31, 32, 33, 34, 35, 36, 3, 4, 5, 6] (by kernel_rfl) (fun K hK => ?_)
      simp only [Act.put, List.foldl_cons, List.foldl_nil, List.setIfInBounds_toArray, List.set_cons_zero, List.set_cons_succ] at hK ⊢
      clear hj hf
      rw [e1] at hK ⊢
      clear e1
      go_simp
      exact hK _ _ (fun k v _ _ h => h.keep (Below.refl _ _)) (fun t ht => SV.eq rfl rfl) hcm
    · have e1 : f 24 = .int .i64 B1 := (hf 7 _ _ rfl rfl (up_dep hr (by kernel_rfl))).2 _ rfl
      refine GJ.op hj (by kernel_rfl) hr rfl [17, 18, 19, 20, 21, 22, 23, 24, 25, 26, 27, 28, 29, 30, 31, 32, 33, 34, 35, 36, 3, 4, 5, 6] (by kernel_rfl) (fun K hK => ?_)
      simp only [Act.put, List.foldl_cons, List.foldl_nil, List.setIfInBounds_toArray, List.set_cons_zero, List.set_cons_succ] at hK ⊢
      clear hj hf
      rw [e1] at hK ⊢
      clear e1
      go_simp
      exact hK _ _ (fun k v _ _ h => h.keep (Below.refl _ _)) (fun t ht => SV.eq rfl rfl) hcm
    · have e1 : f 25 = .int .i64 B2 := (hf 8 _ _ rfl rfl (up_dep hr (by kernel_rfl))).2 _ rfl
      refine GJ.op hj (by kernel_rfl) hr rfl [17, 18, 19, 20, 21, 22, 23, 24, 25, 26, 27, 28, 29, 30, 31, 32, 33, 34, 35, 36, 3, 4, 5, 6] (by kernel_rfl) (fun K hK => ?_)
      simp only [Act.put, List.foldl_cons, List.foldl_nil, List.setIfInBounds_toArray, List.set_cons_zero, List.set_cons_succ] at hK ⊢
      clear hj hf
      rw [e1] at hK ⊢
      clear e1
      go_simp
      exact hK _ _ (fun k v _ _ h => h.keep (Below.refl _ _)) (fun t ht => SV.eq rfl rfl) hcm
    · refine GJ.op hj (by kernel_rfl) hr rfl [17, 18, 19, 20, 21, 22, 23, 24, 25, 26, 27, 28, 29, 30, 31, 32, 33, 34, 35, 36, 3, 4, 5, 6] (by kernel_rfl) (fun K hK => ?_)
      simp only [Act.put, List.foldl_cons, List.foldl_nil, List.setIfInBounds_toArray, List.set_cons_zero, List.set_cons_succ] at hK ⊢
      clear hj hf
      go_simp
      exact hK _ _ (fun k v _ _ h => h.keep (Below.refl _ _)) (fun t ht => SV.eq rfl rfl) hcm
    · have e1 : f 27 = .pointer (some ⟨w.heap.size, 2, none⟩) := (hf 10 _ _ rfl rfl (up_dep hr (by kernel_rfl))).2 _ rfl
      have kc := keep_cell hcm k2
      have klt := World.block_lt_of_cell? _ _ kc
      simp only at klt
      refine GJ.op hj (by kernel_rfl) hr rfl [17, 18, 19, 20, 21, 22, 23, 24, 25, 26, 27, 28, 29, 30, 31, 32, 33, 34, 35, 36, 3, 4, 5, 6] (by kernel_rfl) (fun K hK => ?_)
      simp only [Act.put, List.foldl_cons, List.foldl_nil, List.setIfInBounds_toArray, List.set_cons_zero, List.set_cons_succ] at hK ⊢
      clear hj hf
      rw [e1] at hK ⊢
      clear e1
      go_simp
      exact hK _ _ (fun k v _ _ h => h.keep (Below.refl _ _)) (fun t ht => SV.eq rfl rfl) hcm
    · have e1 : f 28 = .int .i16 c := (hf 11 _ _ rfl rfl (up_dep hr (by kernel_rfl))).2 _ rfl
      refine GJ.op hj (by kernel_rfl) hr rfl [17, 18, 19, 20, 21, 22, 23, 24, 25, 26, 27, 28, 29, 30, 31, 32, 33, 34, 35, 36, 3, 4, 5, 6] (by kernel_rfl) (fun K hK => ?_)
      simp only [Act.put, List.foldl_cons, List.foldl_nil, List.setIfInBounds_toArray, List.set_cons_zero, List.set_cons_succ] at hK ⊢
      clear hj hf
      rw [e1] at hK ⊢
      clear e1
      go_simp
      exact hK _ _ (fun k v _ _ h => h.keep (Below.refl _ _)) (fun t ht => SV.eq rfl rfl) hcm
    · have e1 : f 29 = .int .i64 c := (hf 12 _ _ rfl rfl (up_dep hr (by kernel_rfl))).2 _ rfl
      refine GJ.op hj (by kernel_rfl) hr rfl [17, 18, 19, 20, 21, 22, 23, 24, 25, 26, 27, 28, 29, 30, 31, 32, 33, 34, 35, 36, 3, 4, 5, 6] (by kernel_rfl) (fun K hK => ?_)
      simp only [Act.put, List.foldl_cons, List.foldl_nil, List.setIfInBounds_toArray, List.set_cons_zero, List.set_cons_succ] at hK ⊢
      clear hj hf
      rw [e1] at hK ⊢
      clear e1
      go_simp
      exact hK _ _ (fun k v _ _ h => h.keep (Below.refl _ _)) (fun t ht => SV.eq rfl rfl) hcm
    · refine GJ.op hj (by kernel_rfl) hr rfl [17, 18, 19, 20, 21, 22, 23, 24, 25, 26, 27, 28, 29, 30, 31, 32, 33, 34, 35, 36, 3, 4, 5, 6] (by kernel_rfl) (fun K hK => ?_)
      simp only [Act.put, List.foldl_cons, List.foldl_nil, List.setIfInBounds_toArray, List.set_cons_zero, List.set_cons_succ] at hK ⊢
      clear hj hf
      go_simp
      exact hK _ _ (fun k v _ _ h => h.keep (Below.refl _ _)) (fun t ht => SV.eq rfl rfl) hcm
    · have e1 : f 31 = .pointer (some ⟨w.heap.size, 3, none⟩) := (hf 14 _ _ rfl rfl (up_dep hr (by kernel_rfl))).2 _ rfl
      have kc := keep_cell hcm k3
      have klt := World.block_lt_of_cell? _ _ kc
      simp only at klt
      refine GJ.op hj (by kernel_rfl) hr rfl [17, 18, 19, 20, 21, 22, 23, 24, 25, 26, 27, 28, 29, 30, 31, 32, 33, 34, 35, 36, 3, 4, 5, 6] (by kernel_rfl) (fun K hK => ?_)
      simp only [Act.put, List.foldl_cons, List.foldl_nil, List.setIfInBounds_toArray, List.set_cons_zero, List.set_cons_succ] at hK ⊢
      clear hj hf
      rw [e1] at hK ⊢
      clear e1
      go_simp
      exact hK _ _ (fun k v _ _ h => h.keep (Below.refl _ _)) (fun t ht => SV.eq rfl rfl) hcm
    · have e1 : f 32 = .int .i16 d := (hf 15 _ _ rfl rfl (up_dep hr (by kernel_rfl))).2 _ rfl
      refine GJ.op hj (by kernel_rfl) hr rfl [17, 18, 19, 20, 21, 22, 23, 24, 25, 26, 27, 28, 29, 30, 31, 32, 33, 34, 35, 36, 3, 4, 5, 6] (by kernel_rfl) (fun K hK => ?_)
      simp only [Act.put, List.foldl_cons, List.foldl_nil, List.setIfInBounds_toArray, List.set_cons_zero, List.set_cons_succ] at hK ⊢
      clear hj hf
      rw [e1] at hK ⊢
      clear e1
      go_simp
      exact hK _ _ (fun k v _ _ h => h.keep (Below.refl _ _)) (fun t ht => SV.eq rfl rfl) hcm
    · have e1 : f 33 = .int .i64 d := (hf 16 _ _ rfl rfl (up_dep hr (by kernel_rfl))).2 _ rfl
      refine GJ.op hj (by kernel_rfl) hr rfl [17, 18, 19, 20, 21, 22, 23, 24, 25, 26, 27, 28, 29, 30, 31, 32, 33, 34, 35, 36, 3, 4, 5, 6] (by kernel_rfl) (fun K hK => ?_)
      simp only [Act.put, List.foldl_cons, List.foldl_nil, List.setIfInBounds_toArray, List.set_cons_zero, List.set_cons_succ] at hK ⊢
      clear hj hf
      rw [e1] at hK ⊢
      clear e1
      go_simp
      exact hK _ _ (fun k v _ _ h => h.keep (Below.refl _ _)) (fun t ht => SV.eq rfl rfl) hcm
    · have e1 : f 34 = .int .i64 D1 := (hf 17 _ _ rfl rfl (up_dep hr (by kernel_rfl))).2 _ rfl
      refine GJ.op hj (by kernel_rfl) hr rfl [17, 18, 19, 20, 21, 22, 23, 24, 25, 26, 27, 28, 29, 30, 31, 32, 33, 34, 35, 36, 3, 4, 5, 6] (by kernel_rfl) (fun K hK => ?_)
      simp only [Act.put, List.foldl_cons, List.foldl_nil, List.setIfInBounds_toArray, List.set_cons_zero, List.set_cons_succ] at hK ⊢
      clear hj hf
      rw [e1] at hK ⊢
      clear e1
      go_simp
      exact hK _ _ (fun k v _ _ h => h.keep (Below.refl _ _)) (fun t ht => SV.eq rfl rfl) hcm
    · have e1 : f 35 = .int .i64 D2 := (hf 18 _ _ rfl rfl (up_dep hr (by kernel_rfl))).2 _ rfl
      refine GJ.op hj (by kernel_rfl) hr rfl [17, 18, 19, 20, 21, 22, 23, 24, 25, 26, 27, 28, 29, 30, 31, 32, 33, 34, 35, 36, 3, 4, 5, 6] (by kernel_rfl) (fun K hK => ?_)
      simp only [Act.put, List.foldl_cons, List.foldl_nil, List.setIfInBounds_toArray, List.set_cons_zero, List.set_cons_succ] at hK ⊢
      clear hj hf
      rw [e1] at hK ⊢
      clear e1
      go_simp
      exact hK _ _ (fun k v _ _ h => h.keep (Below.refl _ _)) (fun t ht => SV.eq rfl rfl) hcm
    · have e1 : f 20 = .int .i64 A := (hf 3 _ _ rfl rfl (up_dep hr (by kernel_rfl))).2 _ rfl
      refine GJ.op hj (by kernel_rfl) hr rfl [17, 18, 19, 20, 21, 22, 23, 24, 25, 26, 27, 28, 29, 30, 31, 32, 33, 34, 35, 36, 3, 4, 5, 6] (by kernel_rfl) (fun K hK => ?_)
      simp only [Act.put, List.foldl_cons, List.foldl_nil, List.setIfInBounds_toArray, List.set_cons_zero, List.set_cons_succ] at hK ⊢
      clear hj hf
      rw [e1] at hK ⊢
      clear e1
      go_simp
      exact hK _ _ (fun k v _ _ h => h.keep (Below.refl _ _)) (fun t ht => SV.eq rfl rfl) hcm
    · have e1 : f 26 = .int .i64 B := (hf 9 _ _ rfl rfl (up_dep hr (by kernel_rfl))).2 _ rfl
      refine GJ.op hj (by kernel_rfl) hr rfl [17, 18, 19, 20, 21, 22, 23, 24, 25, 26, 27, 28, 29, 30, 31, 32, 33, 34, 35, 36, 3, 4, 5, 6] (by kernel_rfl) (fun K hK => ?_)
      simp only [Act.put, List.foldl_cons, List.foldl_nil, List.setIfInBounds_toArray, List.set_cons_zero, List.set_cons_succ] at hK ⊢
      clear hj hf
      rw [e1] at hK ⊢
      clear e1
      go_simp
      exact hK _ _ (fun k v _ _ h => h.keep (Below.refl _ _)) (fun t ht => SV.eq rfl rfl) hcm
    · have e1 : f 30 = .int .i64 C := (hf 13 _ _ rfl rfl (up_dep hr (by kernel_rfl))).2 _ rfl
      refine GJ.op hj (by kernel_rfl) hr rfl [17, 18, 19, 20, 21, 22, 23, 24, 25, 26, 27, 28, 29, 30, 31, 32, 33, 34, 35, 36, 3, 4, 5, 6] (by kernel_rfl) (fun K hK => ?_)
      simp only [Act.put, List.foldl_cons, List.foldl_nil, List.setIfInBounds_toArray, List.set_cons_zero, List.set_cons_succ] at hK ⊢
      clear hj hf
      rw [e1] at hK ⊢
      clear e1
      go_simp
      exact hK _ _ (fun k v _ _ h => h.keep (Below.refl _ _)) (fun t ht => SV.eq rfl rfl) hcm
    · have e1 : f 36 = .int .i64 D := (hf 19 _ _ rfl rfl (up_dep hr (by kernel_rfl))).2 _ rfl
      refine GJ.op hj (by kernel_rfl) hr rfl [17, 18, 19, 20, 21, 22, 23, 24, 25, 26, 27, 28, 29, 30, 31, 32, 33, 34, 35, 36, 3, 4, 5, 6] (by kernel_rfl) (fun K hK => ?_)
      simp only [Act.put, List.foldl_cons, List.foldl_nil, List.setIfInBounds_toArray, List.set_cons_zero, List.set_cons_succ] at hK ⊢
      clear hj hf
      rw [e1] at hK ⊢
      clear e1
      go_simp
      exact hK _ _ (fun k v _ _ h => h.keep (Below.refl _ _)) (fun t ht => SV.eq rfl rfl) hcm
  · intro listed a w10 hr hj
    have hu : ∀ k, k < 24 → up listed k := fun k hk => all_up (by kernel_rfl) hj.lsize hr k hk
    obtain ⟨f, rfl, hcm, hf⟩ := hj.opened [17, 18, 19, 20, 21, 22, 23, 24, 25, 26, 27, 28, 29, 30, 31, 32, 33, 34, 35, 36, 3, 4, 5, 6] (by kernel_rfl)
    replace hcm : Below W0.heap.size W0 w10 := hcm
    have e3 : f 3 = .int .i64 A := (hf 20 _ _ rfl rfl (hu 20 (by omega))).2 _ rfl
    have e4 : f 4 = .int .i64 B := (hf 21 _ _ rfl rfl (hu 21 (by omega))).2 _ rfl
    have e5 : f 5 = .int .i64 C := (hf 22 _ _ rfl rfl (hu 22 (by omega))).2 _ rfl
    have e6 : f 6 = .int .i64 D := (hf 23 _ _ rfl rfl (hu 23 (by omega))).2 _ rfl
    have HB : Hid (Below w.heap.size w w10) := HB0.out.trans (hcm.mono HB0.out.size)
    clear hf hj hr hu hcm k0 k1 k2 k3 k4 k5
    simp only [List.foldl_cons, List.foldl_nil, List.setIfInBounds_toArray, List.set_cons_zero, List.set_cons_succ]
    rw [e3, e4, e5, e6]
    clear e3 e4 e5 e6
    generalize f 17 = g17
    generalize f 18 = g18
    generalize f 19 = g19
    generalize f 20 = g20
    generalize f 21 = g21
    generalize f 22 = g22
    generalize f 23 = g23
    generalize f 24 = g24
    generalize f 25 = g25
    generalize f 26 = g26
    generalize f 27 = g27
    generalize f 28 = g28
    generalize f 29 = g29
    generalize f 30 = g30
    generalize f 31 = g31
    generalize f 32 = g32
    generalize f 33 = g33
    generalize f 34 = g34
    generalize f 35 = g35
    generalize f 36 = g36
    clear f
    go_wp2_with fail
    refine (ROf_c _ A B (by omega) (by omega) (by omega) (by omega)).mono ?_
    rw [HLO.out]
    rintro e w11 ⟨v, rfl, hv, hb11⟩
    have hv : IsF _ v (LO) := hv
    obtain ⟨va, vb, rfl, h1, h2⟩ := hv
    obtain ⟨pL, mL, rfl, _, _⟩ := h1.shape
    obtain ⟨qL, nL, rfl, _, _⟩ := h2.shape
    have FL := Lib.hid (IsF.at_ h1 h2)
    clear h1 h2
    replace HB := Lib.hid (HB.out.trans (hb11.mono HB.out.size))
    clear hb11
    have g_L : w.heap.size ≤ w11.heap.size := by have := HB.out.size; omega
    go_wp2_with fail
    refine (ROf_c _ C D (by omega) (by omega) (by omega) (by omega)).mono ?_
    rw [HHI.out]
    rintro e w12 ⟨v, rfl, hv, hb12⟩
    have hv : IsF _ v (HI) := hv
    obtain ⟨va, vb, rfl, h1, h2⟩ := hv
    obtain ⟨pH, mH, rfl, _, _⟩ := h1.shape
    obtain ⟨qH, nH, rfl, _, _⟩ := h2.shape
    have FH := Lib.hid (IsF.at_ h1 h2)
    clear h1 h2
    obtain ⟨hb12, CL⟩ := after_new hb12
    replace CL := Lib.hid CL
    replace FL := Lib.hid (FL.out.after hb12)
    replace HB := Lib.hid (HB.out.trans (hb12.mono HB.out.size))
    clear hb12
    have d_L_H : w11.heap.size < w12.heap.size := CL.out.lt
    have g_H : w.heap.size ≤ w12.heap.size := by have := HB.out.size; omega
    obtain ⟨cL0, cL1, cL2⟩ := CL.out.cells3
    have ltL := CL.out.lt
    go_wp2_with fail
    refine (Simplest_c _ _ _ LO HI (FL.out.alloc _) (FH.out.alloc _)).mono ?_
    rw [HS.out]
    rintro e w13 ⟨v, rfl, hv, hb13⟩
    have hv : IsF _ v (fr true p q) := hv
    obtain ⟨va, vb, rfl, h1, h2⟩ := hv
    obtain ⟨pZ, mZ, rfl, _, _⟩ := h1.shape
    obtain ⟨qZ, nZ, rfl, _, _⟩ := h2.shape
    have FZ := Lib.hid (IsF.at_ h1 h2)
    clear h1 h2
    clear cL0 cL1 cL2 ltL
    obtain ⟨hb13, CH⟩ := after_new hb13
    replace CH := Lib.hid CH
    replace CL := Lib.hid (CL.out.after hb13)
    replace FL := Lib.hid (FL.out.after hb13)
    replace FH := Lib.hid (FH.out.after hb13)
    replace HB := Lib.hid (HB.out.trans (hb13.mono HB.out.size))
    clear hb13
    have d_L_Z : w11.heap.size < w13.heap.size := CL.out.lt
    have d_H_Z : w12.heap.size < w13.heap.size := CH.out.lt
    have g_Z : w.heap.size ≤ w13.heap.size := by have := HB.out.size; omega
    obtain ⟨cL0, cL1, cL2⟩ := CL.out.cells3
    have ltL := CL.out.lt
    obtain ⟨cH0, cH1, cH2⟩ := CH.out.cells3
    have ltH := CH.out.lt
    go_wp2_with fail
    refine (Valid_c _ _ (fr true p q) (FZ.out.alloc _)).mono ?_
    intro e w14 hr
    obtain ⟨rfl, hb14⟩ := hr.yes HVZ.out
    clear hr
    clear cL0 cL1 cL2 ltL cH0 cH1 cH2 ltH
    obtain ⟨hb14, CZ⟩ := after_new hb14
    replace CZ := Lib.hid CZ
    replace CL := Lib.hid (CL.out.after hb14)
    replace CH := Lib.hid (CH.out.after hb14)
    replace FL := Lib.hid (FL.out.after hb14)
    replace FH := Lib.hid (FH.out.after hb14)
    replace FZ := Lib.hid (FZ.out.after hb14)
    replace HB := Lib.hid (HB.out.trans (hb14.mono HB.out.size))
    clear hb14
    obtain ⟨_, i1, i2⟩ := FZ.out.parts
    replace i1 : Sl _ _ (limbs p) := i1
    replace i2 : Sl _ _ (limbs q) := i2
    rw [HLQ.out] at i2
    obtain ⟨bq, oq, cq, eq1, _, _, kq, lq⟩ := i2.one_cell
    simp only [fr, HLQ.out, List.length_cons, List.length_nil, Nat.zero_add] at eq1
    injection eq1 with eq1 _ eq3
    subst eq1 eq3
    rw [HLP.out] at i1
    obtain ⟨bp, op, cp, ep1, _, _, kp, lp⟩ := i1.one_cell
    simp only [fr, HLP.out, List.length_cons, List.length_nil, Nat.zero_add] at ep1
    injection ep1 with ep1 _ ep3
    subst ep1 ep3
    simp only [fr, HLQ.out, HLP.out, List.length_cons, List.length_nil, Nat.zero_add] at CZ
    clear i1 i2 FL FH FZ
    obtain ⟨cL0, cL1, cL2⟩ := CL.out.cells3
    have ltL := CL.out.lt
    obtain ⟨cH0, cH1, cH2⟩ := CH.out.cells3
    have ltH := CH.out.lt
    obtain ⟨cZ0, cZ1, cZ2⟩ := CZ.out.cells3
    have ltZ := CZ.out.lt
    go_upto_region 9 with fail
    have KQ := Lib.hid kq
    have KP := Lib.hid kp
    clear kq kp
    clear CL
    clear CH
    clear cL0 cL1 cL2 ltL cH0 cH1 cH2 ltH cZ0 cZ1 cZ2 ltZ
    refine wp_region_gj (J := GJ _ (fun _ => SV (fun _ => none) (fun κ => match κ with | 0 => some (.pointer (some ⟨w13.heap.size, 2, none⟩)) | 1 => some (.slice (some ⟨bq, oq, none⟩) 1 nZ) | 2 => some (.pointer (some ⟨bq, oq, none⟩)) | 3 => some (.int .u32 k) | 4 => some (.int .i64 k) | 5 => some (.int .i64 0) | 6 => some (.int .i64 k) | _ => none)) (fun _ _ w => Below w14.heap.size w14 w) _) (by kernel_rfl) ?_ ?_ (GJ.start (below_dr (Below.refl _ _)))
    · intro listed a w9 i hr hj
      obtain ⟨hi12, hun, _, _, _⟩ := ready_mem hr
      have h12 : i ∈ List.range 7 := List.mem_range.2 hi12
      simp only [List.range, List.range.loop, List.mem_cons, List.not_mem_nil, or_false] at h12
      obtain ⟨f, rfl, hcm, hf⟩ := hj.opened [92, 93, 94, 95, 96, 13, 14] (by kernel_rfl)
      have hcm : Below w14.heap.size w14 w9 := hcm
      rcases h12 with rfl | rfl | rfl | rfl | rfl | rfl | rfl
      · refine GJ.op hj (by kernel_rfl) hr rfl [92, 93, 94, 95, 96, 13, 14] (by kernel_rfl) (fun K hK => ?_)
        simp only [Act.put, List.foldl_cons, List.foldl_nil, List.setIfInBounds_toArray, List.set_cons_zero, List.set_cons_succ] at hK ⊢
        clear hj hf
        go_simp
        exact hK _ _ (fun k v _ _ h => h.keep (Below.refl _ _)) (fun t ht => SV.eq rfl rfl) hcm
      · have e1 : f 92 = .pointer (some ⟨w13.heap.size, 2, none⟩) := (hf 0 _ _ rfl rfl (up_dep hr (by kernel_rfl))).2 _ rfl
        obtain ⟨k0, k1, k2⟩ := (CZ.out.after hcm).cells3
        have klt := (CZ.out.after hcm).lt
        refine GJ.op hj (by kernel_rfl) hr rfl [92, 93, 94, 95, 96, 13, 14] (by kernel_rfl) (fun K hK => ?_)
        simp only [Act.put, List.foldl_cons, List.foldl_nil, List.setIfInBounds_toArray, List.set_cons_zero, List.set_cons_succ] at hK ⊢
        clear hj hf
        rw [e1] at hK ⊢
        clear e1
        go_simp
        exact hK _ _ (fun k v _ _ h => h.keep (Below.refl _ _)) (fun t ht => SV.eq rfl rfl) hcm
      · have e1 : f 93 = .slice (some ⟨bq, oq, none⟩) 1 nZ := (hf 1 _ _ rfl rfl (up_dep hr (by kernel_rfl))).2 _ rfl
        refine GJ.op hj (by kernel_rfl) hr rfl [92, 93, 94, 95, 96, 13, 14] (by kernel_rfl) (fun K hK => ?_)
        simp only [Act.put, List.foldl_cons, List.foldl_nil, List.setIfInBounds_toArray, List.set_cons_zero, List.set_cons_succ] at hK ⊢
        clear hj hf
        rw [e1] at hK ⊢
        clear e1
        go_simp
        exact hK _ _ (fun k v _ _ h => h.keep (Below.refl _ _)) (fun t ht => SV.eq rfl rfl) hcm
      · have e1 : f 94 = .pointer (some ⟨bq, oq, none⟩) := (hf 2 _ _ rfl rfl (up_dep hr (by kernel_rfl))).2 _ rfl
        have kc := keep_cell hcm KQ.out
        have klt := World.block_lt_of_cell? _ _ kc
        simp only at klt
        refine GJ.op hj (by kernel_rfl) hr rfl [92, 93, 94, 95, 96, 13, 14] (by kernel_rfl) (fun K hK => ?_)
        simp only [Act.put, List.foldl_cons, List.foldl_nil, List.setIfInBounds_toArray, List.set_cons_zero, List.set_cons_succ] at hK ⊢
        clear hj hf
        rw [e1] at hK ⊢
        clear e1
        go_simp
        exact hK _ _ (fun k v _ _ h => h.keep (Below.refl _ _)) (fun t ht => SV.eq rfl rfl) hcm
      · have e1 : f 95 = .int .u32 k := (hf 3 _ _ rfl rfl (up_dep hr (by kernel_rfl))).2 _ rfl
        refine GJ.op hj (by kernel_rfl) hr rfl [92, 93, 94, 95, 96, 13, 14] (by kernel_rfl) (fun K hK => ?_)
        simp only [Act.put, List.foldl_cons, List.foldl_nil, List.setIfInBounds_toArray, List.set_cons_zero, List.set_cons_succ] at hK ⊢
        clear hj hf
        rw [e1] at hK ⊢
        clear e1
        go_simp
        exact hK _ _ (fun k v _ _ h => h.keep (Below.refl _ _)) (fun t ht => SV.eq rfl rfl) hcm
      · refine GJ.op hj (by kernel_rfl) hr rfl [92, 93, 94, 95, 96, 13, 14] (by kernel_rfl) (fun K hK => ?_)
        simp only [Act.put, List.foldl_cons, List.foldl_nil, List.setIfInBounds_toArray, List.set_cons_zero, List.set_cons_succ] at hK ⊢
        clear hj hf
        go_simp
        exact hK _ _ (fun k v _ _ h => h.keep (Below.refl _ _)) (fun t ht => SV.eq rfl rfl) hcm
      · have e1 : f 96 = .int .i64 k := (hf 4 _ _ rfl rfl (up_dep hr (by kernel_rfl))).2 _ rfl
        refine GJ.op hj (by kernel_rfl) hr rfl [92, 93, 94, 95, 96, 13, 14] (by kernel_rfl) (fun K hK => ?_)
        simp only [Act.put, List.foldl_cons, List.foldl_nil, List.setIfInBounds_toArray, List.set_cons_zero, List.set_cons_succ] at hK ⊢
        clear hj hf
        rw [e1] at hK ⊢
        clear e1
        go_simp
        exact hK _ _ (fun k v _ _ h => h.keep (Below.refl _ _)) (fun t ht => SV.eq rfl rfl) hcm
    · intro listed a w15 hr hj
      have hu : ∀ k, k < 7 → up listed k := fun k hk => all_up (by kernel_rfl) hj.lsize hr k hk
      obtain ⟨f, rfl, hcm, hf⟩ := hj.opened [92, 93, 94, 95, 96, 13, 14] (by kernel_rfl)
      replace hcm : Below w14.heap.size w14 w15 := hcm
      have e13 : f 13 = .int .i64 0 := (hf 5 _ _ rfl rfl (hu 5 (by omega))).2 _ rfl
      have e14 : f 14 = .int .i64 k := (hf 6 _ _ rfl rfl (hu 6 (by omega))).2 _ rfl
      replace HB : Hid (Below w.heap.size w w15) := Lib.hid (HB.out.trans (hcm.mono HB.out.size))
      replace CZ := Lib.hid (CZ.out.after hcm)
      replace lq := Nat.lt_of_lt_of_le lq hcm.size
      have kq := keep_cell hcm KQ.out
      have kp := keep_cell hcm KP.out
      replace lp := Nat.lt_of_lt_of_le lp hcm.size
      clear hf hj hr hu hcm KQ KP
      simp only [List.foldl_cons, List.foldl_nil, List.setIfInBounds_toArray, List.set_cons_zero, List.set_cons_succ]
      rw [e13, e14]
      clear e13 e14
      generalize f 92 = g92
      generalize f 93 = g93
      generalize f 94 = g94
      generalize f 95 = g95
      generalize f 96 = g96
      clear f
      obtain ⟨cZ0, cZ1, cZ2⟩ := CZ.out.cells3
      have ltZ := CZ.out.lt
      go_wp2_with fail
      clear cZ0 cZ1 cZ2 ltZ
      clear CZ HLO HHI HS HVZ HLQ HLP kq lq kp lp
      clear g_L d_L_H g_H d_L_Z d_H_Z g_Z
      go_loopg [15] (q - 1) (fun g t wx => ∃ j : Nat, 1 ≤ j ∧ j ≤ q ∧ g = q - j ∧ t = .int .i64 (j : Int) ∧ Hid (Below w.heap.size w wx))
      case atStart => exact ⟨1, Nat.le_refl _, hq0, rfl, rfl, HB.out⟩
      case round =>
        obtain ⟨j, hj1, hjq, rfl, rfl, hbl⟩ := hrel
        clear HB
        by_cases hlt : j < q
        · have hjk : (j : Int) < k := by omega
          have hdj : decide ((j : Int) < k) = true := decide_eq_true hjk
          have hbad := HLOOP.out j hj1 hlt
          have b1 := mulb (x := C) (y := (j : Int)) (X := 300) (Y := 60) (by omega) (by omega) (by omega) (by omega)
          have b2 := floor_bd (n := C * (j : Int)) (d := D) (X := 300 * 60) (by omega) b1.1 b1.2
          obtain ⟨G, hG⟩ : ∃ G, C * (j : Int) / D = G := ⟨_, rfl⟩
          rw [hG] at b2 hbad
          have b3 := mulb (x := G) (y := B) (X := 20000) (Y := 60) (by omega) (by omega) (by omega) (by omega)
          have b4 := mulb (x := A) (y := (j : Int)) (X := 300) (Y := 60) (by omega) (by omega) (by omega) (by omega)
          obtain ⟨b1a, b1b⟩ := b1
          obtain ⟨b3a, b3b⟩ := b3
          obtain ⟨b4a, b4b⟩ := b4
          have hG2 := Lib.hid hG
          clear b2 hG
          go_wp2_with fail
          refine (floor_c _ (C * (j : Int)) D (by omega) (by omega) (by omega)).mono ?_
          rw [hG2.out]
          rintro e w20 ⟨rfl, hb20⟩
          replace hbl := Lib.hid (hbl.out.trans (hb20.mono hbl.out.size))
          clear hb20 hG2
          go_wp2_with fail
          go_roundg (q - (j + 1))
          case measure => omega
          case rel => exact ⟨j + 1, by omega, by omega, rfl, by go_num, hbl⟩
        · obtain rfl : j = q := by omega
          have hdj : decide (k < k) = false := decide_eq_false (by omega)
          clear hlt HLOOP
          rcases HM.out with hm1 | ⟨hm1, hm2⟩
          · go_wp2_with fail
            refine (rworks_c _).mono ?_
            rintro e w21 ⟨rfl, hb21⟩
            replace hbl := Lib.hid (hbl.out.trans (hb21.mono hbl.out.size))
            clear hb21
            go_wp2_with fail
            go_ret
            exact ⟨rfl, hbl.out⟩
          · go_wp2_with fail
            refine (rworks_c _).mono ?_
            rintro e w21 ⟨rfl, hb21⟩
            replace hbl := Lib.hid (hbl.out.trans (hb21.mono hbl.out.size))
            clear hb21
            go_wp2_with fail
            go_ret
            exact ⟨rfl, hbl.out⟩
set_option maxRecDepth 100000 in
set_option maxHeartbeats 16000000 in
theorem simplest_1z (w : World) (a b c d e f' : Int) (a0 : -32768 ≤ a) (a1 : a ≤ 32767) (b0 : -32768 ≤ b) (b1 : b ≤ 32767) (c0 : -32768 ≤ c) (c1 : c ≤ 32767) (d0 : -32768 ≤ d) (d1 : d ≤ 32767)
    (A B1 B2 B C D1 D2 D k : Int) (q : Nat) (LO HI : F) (hA : a.tmod 300 = A) (hB1 : bits .and .i64 b 1023 = B1) (hB2 : B1.tmod 60 = B2) (hB3 : B1 % 60 = B2) (hB : 1 + B2 = B) (hC : c.tmod 300 = C) (hD1 : bits .and .i64 d 1023 = D1) (hD2 : D1.tmod 60 = D2) (hD3 : D1 % 60 = D2) (hD : 1 + D2 = D)
    (Al : -299 ≤ A) (Ah : A ≤ 299) (B1l : 0 ≤ B1) (B1h : B1 ≤ 1023) (B2l : 0 ≤ B2) (B2h : B2 ≤ 59) (Bl : 1 ≤ B) (Bh : B ≤ 60) (Cl : -299 ≤ C) (Ch : C ≤ 299) (D1l : 0 ≤ D1) (D1h : D1 ≤ 1023) (D2l : 0 ≤ D2) (D2h : D2 ≤ 59) (Dl : 1 ≤ D) (Dh : D ≤ 60)
    (pAD : -18000 ≤ A * D) (pAD' : A * D ≤ 18000) (pCB : -18000 ≤ C * B) (pCB' : C * B ≤ 18000) (hsw : decide (C * B < A * D) = true)
    (HLO : Hid (ofF C D = (LO, 0))) (HHI : Hid (ofF A B = (HI, 0))) (HS : Hid (simplestF LO HI = (fr false 0 q, 0))) (HVZ : Hid (ValidF (fr false 0 q))) (HLQ : Hid (limbs q = [q])) (hq0 : 1 ≤ q) (hq1 : q ≤ 60) (hq2 : decide (60 < q) = false) (hk : (q : Int) = k) (kl : 1 ≤ k) (kh : k ≤ 60)
    (pxk : -18000 ≤ C * k) (pxk' : C * k ≤ 18000) (puk : -18000 ≤ A * k) (puk' : A * k ≤ 18000)
    (h1 : decide (0 < C * k) = false) (h2 : decide (A * k < 0) = false)
    (HLOOP : Hid (∀ j : Nat, 1 ≤ j → j < q → decide (C * (j : Int) ≤ A * (j : Int) / B * D) = false)) :
    Calls Try.prog 10 #[.agg #[.int .i16 a, .int .i16 b, .int .i16 c, .int .i16 d, .int .i16 e, .int .i16 f']] w fun e w' => e = .returned (.bool true) ∧ Below w.heap.size w w' := by
  obtain ⟨W0, hW⟩ : ∃ W0, W0 = w.alloc (.cells #[.int .i16 a, .int .i16 b, .int .i16 c, .int .i16 d, .int .i16 e, .int .i16 f'] 47) := ⟨_, rfl⟩
  have hb0 : Below w.heap.size w W0 := hW ▸ held_alloc (Below.refl _ w)
  have bx : Box W0 w.heap.size #[.int .i16 a, .int .i16 b, .int .i16 c, .int .i16 d, .int .i16 e, .int .i16 f'] 47 := hW ▸ Box.new w _ _
  have k0 : W0.cell? ⟨w.heap.size, 0, none⟩ = some (.int .i16 a) := bx.cell 0
  have k1 : W0.cell? ⟨w.heap.size, 1, none⟩ = some (.int .i16 b) := bx.cell 1
  have k2 : W0.cell? ⟨w.heap.size, 2, none⟩ = some (.int .i16 c) := bx.cell 2
  have k3 : W0.cell? ⟨w.heap.size, 3, none⟩ = some (.int .i16 d) := bx.cell 3
  have k4 : W0.cell? ⟨w.heap.size, 4, none⟩ = some (.int .i16 e) := bx.cell 4
  have k5 : W0.cell? ⟨w.heap.size, 5, none⟩ = some (.int .i16 f') := bx.cell 5
  have HB0 := Lib.hid hb0
  clear hb0 bx
  have wk : IntKind.i64.wrap k = k := wrap_in (by omega) (by omega)
  have wa : IntKind.i64.wrap a = a := wrap_in (by omega) (by omega)
  have wb : IntKind.i64.wrap b = b := wrap_in (by omega) (by omega)
  have wc : IntKind.i64.wrap c = c := wrap_in (by omega) (by omega)
  have wd : IntKind.i64.wrap d = d := wrap_in (by omega) (by omega)
  have wB : IntKind.i64.wrap B = B := wrap_in (by omega) (by omega)
  have wD : IntKind.i64.wrap D = D := wrap_in (by omega) (by omega)
  go_enter Try.func10, Try.ntmps10
  go_upto_region 1 with fail
  rw [← hW]
  clear hW
  refine wp_region_gj (J := GJ _ (fun _ => SV (fun _ => none) (fun κ => match κ with | 0 => some (.pointer (some ⟨w.heap.size, 0, none⟩)) | 1 => some (.int .i16 a) | 2 => some (.int .i64 a) | 3 => some (.int .i64 A) | 4 => some (.pointer (some ⟨w.heap.size, 1, none⟩)) | 5 => some (.int .i16 b) | 6 => some (.int .i64 b) | 7 => some (.int .i64 B1) | 8 => some (.int .i64 B2) | 9 => some (.int .i64 B) | 10 => some (.pointer (some ⟨w.heap.size, 2, none⟩)) | 11 => some (.int .i16 c) | 12 => some (.int .i64 c) | 13 => some (.int .i64 C) | 14 => some (.pointer (some ⟨w.heap.size, 3, none⟩)) | 15 => some (.int .i16 d) | 16 => some (.int .i64 d) | 17 => some (.int .i64 D1) | 18 => some (.int .i64 D2) | 19 => some (.int .i64 D) | 20 => some (.int .i64 A) | 21 => some (.int .i64 B) | 22 => some (.int .i64 C) | 23 => some (.int .i64 D) | _ => none)) (fun _ _ w => Below W0.heap.size W0 w) _) (by kernel_rfl) ?_ ?_ (GJ.start (below_dr (Below.refl _ _)))
  · intro listed a w9 i hr hj
    obtain ⟨hi12, hun, _, _, _⟩ := ready_mem hr
    have h12 : i ∈ List.range 24 := List.mem_range.2 hi12
    simp only [List.range, List.range.loop, List.mem_cons, List.not_mem_nil, or_false] at h12
    obtain ⟨f, rfl, hcm, hf⟩ := hj.opened [17, 18, 19, 20, 21, 22, 23, 24, 25, 26, 27, 28, 29, 30, 31, 32, 33, 34, 35, 36, 3, 4, 5, 6] (by kernel_rfl)
    have hcm : Below W0.heap.size W0 w9 := hcm
    rcases h12 with rfl | rfl | rfl | rfl | rfl | rfl | rfl | rfl | rfl | rfl | rfl | rfl | rfl | rfl | rfl | rfl | rfl | rfl | rfl | rfl | rfl | rfl | rfl | rfl
    · refine GJ.op hj (by kernel_rfl) hr rfl [17, 18, 19, 20, 21, 22, 23, 24, 25, 26, 27, 28, 29, 30, 31, 32, 33, 34, 35, 36, 3, 4, 5, 6] (by kernel_rfl) (fun K hK => ?_)
      simp only [Act.put, List.foldl_cons, List.foldl_nil, List.setIfInBounds_toArray, List.set_cons_zero, List.set_cons_succ] at hK ⊢
      clear hj hf
      go_simp
      exact hK _ _ (fun k v _ _ h => h.keep (Below.refl _ _)) (fun t ht => SV.eq rfl rfl) hcm
    · have e1 : f 17 = .pointer (some ⟨w.heap.size, 0, none⟩) := (hf 0 _ _ rfl rfl (up_dep hr (by kernel_rfl))).2 _ rfl
      have kc := keep_cell hcm k0
      have klt := World.block_lt_of_cell? _ _ kc
      simp only at klt
      refine GJ.op hj (by kernel_rfl) hr rfl [17, 18, 19, 20, 21, 22, 23, 24, 25, 26, 27, 28, 29, 30, 31, 32, 33, 34, 35, 36, 3, 4, 5, 6] (by kernel_rfl) (fun K hK => ?_)
      simp only [Act.put, List.foldl_cons, List.foldl_nil, List.setIfInBounds_toArray, List.set_cons_zero, List.set_cons_succ] at hK ⊢
      clear hj hf
      rw [e1] at hK ⊢
      clear e1
      go_simp
      exact hK _ _ (fun k v _ _ h => h.keep (Below.refl _ _)) (fun t ht => SV.eq rfl rfl) hcm
    · have e1 : f 18 = .int .i16 a := (hf 1 _ _ rfl rfl (up_dep hr (by kernel_rfl))).2 _ rfl
      refine GJ.op hj (by kernel_rfl) hr rfl [17, 18, 19, 20, 21, 22, 23, 24, 25, 26, 27, 28, 29, 30, 31, 32, 33, 34, 35, 36, 3, 4, 5, 6] (by kernel_rfl) (fun K hK => ?_)
      simp only [Act.put, List.foldl_cons, List.foldl_nil, List.setIfInBounds_toArray, List.set_cons_zero, List.set_cons_succ] at hK ⊢
      clear hj hf
      rw [e1] at hK ⊢
      clear e1
      go_simp
      exact hK _ _ (fun k v _ _ h => h.keep (Below.refl _ _)) (fun t ht => SV.eq rfl rfl) hcm
    · have e1 : f 19 = .int .i64 a := (hf 2 _ _ rfl rfl (up_dep hr (by kernel_rfl))).2 _ rfl
      refine GJ.op hj (by kernel_rfl) hr rfl [17, 18, 19, 20, 21, 22, 23, 24, 25, 26, 27, 28, 29, 30, 31, 32, 33, 34, 35, 36, 3, 4, 5, 6] (by kernel_rfl) (fun K hK => ?_)
      simp only [Act.put, List.foldl_cons, List.foldl_nil, List.setIfInBounds_toArray, List.set_cons_zero, List.set_cons_succ] at hK ⊢
      clear hj hf
      rw [e1] at hK ⊢
      clear e1
      go_simp
      exact hK _ _ (fun k v _ _ h => h.keep (Below.refl _ _)) (fun t ht => SV.eq rfl rfl) hcm
    · refine GJ.op hj (by kernel_rfl) hr rfl [17, 18, 19, 20, 21, 22, 23, 24, 25, 26, 27, 28, 29, 30, 31, 32, 33, 34, 35, 36, 3, 4, 5, 6] (by kernel_rfl) (fun K hK => ?_)
      simp only [Act.put, List.foldl_cons, List.foldl_nil, List.setIfInBounds_toArray, List.set_cons_zero, List.set_cons_succ] at hK ⊢
      clear hj hf
      go_simp
      exact hK _ _ (fun k v _ _ h => h.keep (Below.refl _ _)) (fun t ht => SV.eq rfl rfl) hcm
    · have e1 : f 21 = .pointer (some ⟨w.heap.size, 1, none⟩) := (hf 4 _ _ rfl rfl (up_dep hr (by kernel_rfl))).2 _ rfl
      have kc := keep_cell hcm k1
      have klt := World.block_lt_of_cell? _ _ kc
      simp only at klt
      refine GJ.op hj (by kernel_rfl) hr rfl [17, 18, 19, 20, 21, 22, 23, 24, 25, 26, 27, 28, 29, 30, 31, 32, 33, 34, 35, 36, 3, 4, 5, 6] (by kernel_rfl) (fun K hK => ?_)
      simp only [Act.put, List.foldl_cons, List.foldl_nil, List.setIfInBounds_toArray, List.set_cons_zero, List.set_cons_succ] at hK ⊢
      clear hj hf
      rw [e1] at hK ⊢
      clear e1
      go_simp
      exact hK _ _ (fun k v _ _ h => h.keep (Below.refl _ _)) (fun t ht => SV.eq rfl rfl) hcm
    · have e1 : f 22 = .int .i16 b := (hf 5 _ _ rfl rfl (up_dep hr (by kernel_rfl))).2 _ rfl
      refine GJ.op hj (by kernel_rfl) hr rfl [17, 18, 19, 20, 21, 22, 23, 24, 25, 26, 27, 28, 29, 30, 31, 32, 33, 34, 35, 36, 3, 4, 5, 6] (by kernel_rfl) (fun K hK => ?_)
      simp only [Act.put, List.foldl_cons, List.foldl_nil, List.setIfInBounds_toArray, List.set_cons_zero, List.set_cons_succ] at hK ⊢
      clear hj hf
      rw [e1] at hK ⊢
      clear e1
      go_simp
      exact hK _ _ (fun k v _ _ h => h.keep (Below.refl _ _)) (fun t ht => SV.eq rfl rfl) hcm
    · have e1 : f 23 = .int .i64 b := (hf 6 _ _ rfl rfl (up_dep hr (by kernel_rfl))).2 _ rfl
      refine GJ.op hj (by kernel_rfl) hr rfl [17, 18, 19, 20, 21, 22, 23, 24, 25, 26, 27, 28, 29, 30, 31, 32, 33, 34, 35, 36, 3, 4, 5, 6] (by kernel_rfl) (fun K hK => ?_)
      simp only [Act.put, List.foldl_cons, List.foldl_nil, List.setIfInBounds_toArray, List.set_cons_zero, List.set_cons_succ] at hK ⊢
      clear hj hf
      rw [e1] at hK ⊢
      clear e1
      go_simp
      exact hK _ _ (fun k v _ _ h => h.keep (Below.refl _ _)) (fun t ht => SV.eq rfl rfl) hcm
    · have e1 : f 24 = .int .i64 B1 := (hf 7 _ _ rfl rfl (up_dep hr (by kernel_rfl))).2 _ rfl
      refine GJ.op hj (by kernel_rfl) hr rfl [17, 18, 19, 20, 21, 22, 23, 24, 25, 26, 27, 28, 29, 30, 31, 32, 33, 34, 35, 36, 3, 4, 5, 6] (by kernel_rfl) (fun K hK => ?_)
      simp only [Act.put, List.foldl_cons, List.foldl_nil, List.setIfInBounds_toArray, List.set_cons_zero, List.set_cons_succ] at hK ⊢
      clear hj hf
      rw [e1] at hK ⊢
      clear e1
      go_simp
      exact hK _ _ (fun k v _ _ h => h.keep (Below.refl _ _)) (fun t ht => SV.eq rfl rfl) hcm
    · have e1 : f 25 = .int .i64 B2 := (hf 8 _ _ rfl rfl (up_dep hr (by kernel_rfl))).2 _ rfl
      refine GJ.op hj (by kernel_rfl) hr rfl [17, 18, 19, 20, 21, 22, 23, 24, 25, 26, 27, 28, 29, 30, 31, 32, 33, 34, 35, 36, 3, 4, 5, 6] (by kernel_rfl) (fun K hK => ?_)
      simp only [Act.put, List.foldl_cons, List.foldl_nil, List.setIfInBounds_toArray, List.set_cons_zero, List.set_cons_succ] at hK ⊢
      clear hj hf
      rw [e1] at hK ⊢
      clear e1
      go_simp
      exact hK _ _ (fun k v _ _ h => h.keep (Below.refl _ _)) (fun t ht => SV.eq rfl rfl) hcm
    · refine GJ.op hj (by kernel_rfl) hr rfl [17, 18, 19, 20, 21, 22, 23, 24, 25, 26, 27, 28, 29, 30, 31, 32, 33, 34, 35, 36, 3, 4, 5, 6] (by kernel_rfl) (fun K hK => ?_)
      simp only [Act.put, List.foldl_cons, List.foldl_nil, List.setIfInBounds_toArray, List.set_cons_zero, List.set_cons_succ] at hK ⊢
      clear hj hf
      go_simp
      exact hK _ _ (fun k v _ _ h => h.keep (Below.refl _ _)) (fun t ht => SV.eq rfl rfl) hcm
    · have e1 : f 27 = .pointer (some ⟨w.heap.size, 2, none⟩) := (hf 10 _ _ rfl rfl (up_dep hr (by kernel_rfl))).2 _ rfl
      have kc := keep_cell hcm k2
      have klt := World.block_lt_of_cell? _ _ kc
      simp only at klt
      refine GJ.op hj (by kernel_rfl) hr rfl [17, 18, 19, 20, 21, 22, 23, 24, 25, 26, 27, 28, 29, 30, 31, 32, 33, 34, 35, 36, 3, 4, 5, 6] (by kernel_rfl) (fun K hK => ?_)
      simp only [Act.put, List.foldl_cons, List.foldl_nil, List.setIfInBounds_toArray, List.set_cons_zero, List.set_cons_succ] at hK ⊢
      clear hj hf
      rw [e1] at hK ⊢
      clear e1
      go_simp
      exact hK _ _ (fun k v _ _ h => h.keep (Below.refl _ _)) (fun t ht => SV.eq rfl rfl) hcm
    · have e1 : f 28 = .int .i16 c := (hf 11 _ _ rfl rfl (up_dep hr (by kernel_rfl))).2 _ rfl
      refine GJ.op hj (by kernel_rfl) hr rfl [17, 18, 19, 20, 21, 22, 23, 24, 25, 26, 27, 28, 29, 30, 31, 32, 33, 34, 35, 36, 3, 4, 5, 6] (by kernel_rfl) (fun K hK => ?_)
      simp only [Act.put, List.foldl_cons, List.foldl_nil, List.setIfInBounds_toArray, List.set_cons_zero, List.set_cons_succ] at hK ⊢
      clear hj hf
      rw [e1] at hK ⊢
      clear e1
      go_simp
      exact hK _ _ (fun k v _ _ h => h.keep (Below.refl _ _)) (fun t ht => SV.eq rfl rfl) hcm
    · have e1 : f 29 = .int .i64 c := (hf 12 _ _ rfl rfl (up_dep hr (by kernel_rfl))).2 _ rfl
      refine GJ.op hj (by kernel_rfl) hr rfl [17, 18, 19, 20, 21, 22, 23, 24, 25, 26, 27, 28, 29, 30, 31, 32, 33, 34, 35, 36, 3, 4, 5, 6] (by kernel_rfl) (fun K hK => ?_)
      simp only [Act.put, List.foldl_cons, List.foldl_nil, List.setIfInBounds_toArray, List.set_cons_zero, List.set_cons_succ] at hK ⊢
      clear hj hf
      rw [e1] at hK ⊢
      clear e1
      go_simp
      exact hK _ _ (fun k v _ _ h => h.keep (Below.refl _ _)) (fun t ht => SV.eq rfl rfl) hcm
    · refine GJ.op hj (by kernel_rfl) hr rfl [17, 18, 19, 20, 21, 22, 23, 24, 25, 26, 27, 28, 29, 30, 31, 32, 33, 34, 35, 36, 3, 4, 5, 6] (by kernel_rfl) (fun K hK => ?_)
      simp only [Act.put, List.foldl_cons, List.foldl_nil, List.setIfInBounds_toArray, List.set_cons_zero, List.set_cons_succ] at hK ⊢
      clear hj hf
      go_simp
      exact hK _ _ (fun k v _ _ h => h.keep (Below.refl _ _)) (fun t ht => SV.eq rfl rfl) hcm
    · have e1 : f 31 = .pointer (some ⟨w.heap.size, 3, none⟩) := (hf 14 _ _ rfl rfl (up_dep hr (by kernel_rfl))).2 _ rfl
      have kc := keep_cell hcm k3
      have klt := World.block_lt_of_cell? _ _ kc
      simp only at klt
      refine GJ.op hj (by kernel_rfl) hr rfl [17, 18, 19, 20, 21, 22, 23, 24, 25, 26, 27, 28, 29, 30, 31, 32, 33, 34, 35, 36, 3, 4, 5, 6] (by kernel_rfl) (fun K hK => ?_)
      simp only [Act.put, List.foldl_cons, List.foldl_nil, List.setIfInBounds_toArray, List.set_cons_zero, List.set_cons_succ] at hK ⊢
      clear hj hf
      rw [e1] at hK ⊢
      clear e1
      go_simp
      exact hK _ _ (fun k v _ _ h => h.keep (Below.refl _ _)) (fun t ht => SV.eq rfl rfl) hcm
    · have e1 : f 32 = .int .i16 d := (hf 15 _ _ rfl rfl (up_dep hr (by kernel_rfl))).2 _ rfl
      refine GJ.op hj (by kernel_rfl) hr rfl [17, 18, 19, 20, 21, 22, 23, 24, 25, 26, 27, 28, 29, 30, 31, 32, 33, 34, 35, 36, 3, 4, 5, 6] (by kernel_rfl) (fun K hK => ?_)
      simp only [Act.put, List.foldl_cons, List.foldl_nil, List.setIfInBounds_toArray, List.set_cons_zero, List.set_cons_succ] at hK ⊢
      clear hj hf
      rw [e1] at hK ⊢
      clear e1
      go_simp
      exact hK _ _ (fun k v _ _ h => h.keep (Below.refl _ _)) (fun t ht => SV.eq rfl rfl) hcm
    · have e1 : f 33 = .int .i64 d := (hf 16 _ _ rfl rfl (up_dep hr (by kernel_rfl))).2 _ rfl
      refine GJ.op hj (by kernel_rfl) hr rfl [17, 18, 19, 20, 21, 22, 23, 24, 25, 26, 27, 28, 29, 30, 31, 32, 33, 34, 35, 36, 3, 4, 5, 6] (by kernel_rfl) (fun K hK => ?_)
      simp only [Act.put, List.foldl_cons, List.foldl_nil, List.setIfInBounds_toArray, List.set_cons_zero, List.set_cons_succ] at hK ⊢
      clear hj hf
      rw [e1] at hK ⊢
      clear e1
      go_simp
      exact hK _ _ (fun k v _ _ h => h.keep (Below.refl _ _)) (fun t ht => SV.eq rfl rfl) hcm
    · have e1 : f 34 = .int .i64 D1 := (hf 17 _ _ rfl rfl (up_dep hr (by kernel_rfl))).2 _ rfl
      refine GJ.op hj (by kernel_rfl) hr rfl [17, 18, 19, 20, 21, 22, 23, 24, 25, 26, 27, 28, 29, 30, 31, 32, 33, 34, 35, 36, 3, 4, 5, 6] (by kernel_rfl) (fun K hK => ?_)
      simp only [Act.put, List.foldl_cons, List.foldl_nil, List.setIfInBounds_toArray, List.set_cons_zero, List.set_cons_succ] at hK ⊢
      clear hj hf
      rw [e1] at hK ⊢
      clear e1
      go_simp
      exact hK _ _ (fun k v _ _ h => h.keep (Below.refl _ _)) (fun t ht => SV.eq rfl rfl) hcm
    · have e1 : f 35 = .int .i64 D2 := (hf 18 _ _ rfl rfl (up_dep hr (by kernel_rfl))).2 _ rfl
      refine GJ.op hj (by kernel_rfl) hr rfl [17, 18, 19, 20, 21, 22, 23, 24, 25, 26, 27, 28, 29, 30, 31, 32, 33, 34, 35, 36, 3, 4, 5, 6] (by kernel_rfl) (fun K hK => ?_)
      simp only [Act.put, List.foldl_cons, List.foldl_nil, List.setIfInBounds_toArray, List.set_cons_zero, List.set_cons_succ] at hK ⊢
      clear hj hf
      rw [e1] at hK ⊢
      clear e1
      go_simp
      exact hK _ _ (fun k v _ _ h => h.keep (Below.refl _ _)) (fun t ht => SV.eq rfl rfl) hcm
    · have e1 : f 20 = .int .i64 A := (hf 3 _ _ rfl rfl (up_dep hr (by kernel_rfl))).2 _ rfl
      refine GJ.op hj (by kernel_rfl) hr rfl [17, 18, 19, 20, 21, 22, 23, 24, 25, 26, 27, 28, 29, 30, 31, 32, 33, 34, 35, 36, 3, 4, 5, 6] (by kernel_rfl) (fun K hK => ?_)
      simp only [Act.put, List.foldl_cons, List.foldl_nil, List.setIfInBounds_toArray, List.set_cons_zero, List.set_cons_succ] at hK ⊢
      clear hj hf
      rw [e1] at hK ⊢
      clear e1
      go_simp
      exact hK _ _ (fun k v _ _ h => h.keep (Below.refl _ _)) (fun t ht => SV.eq rfl rfl) hcm
    · have e1 : f 26 = .int .i64 B := (hf 9 _ _ rfl rfl (up_dep hr (by kernel_rfl))).2 _ rfl
      refine GJ.op hj (by kernel_rfl) hr rfl [17, 18, 19, 20, 21, 22, 23, 24, 25, 26, 27, 28, 29, 30, 31, 32, 33, 34, 35, 36, 3, 4, 5, 6] (by kernel_rfl) (fun K hK => ?_)
      simp only [Act.put, List.foldl_cons, List.foldl_nil, List.setIfInBounds_toArray, List.set_cons_zero, List.set_cons_succ] at hK ⊢
      clear hj hf
      rw [e1] at hK ⊢
      clear e1
      go_simp
      exact hK _ _ (fun k v _ _ h => h.keep (Below.refl _ _)) (fun t ht => SV.eq rfl rfl) hcm
    · have e1 : f 30 = .int .i64 C := (hf 13 _ _ rfl rfl (up_dep hr (by kernel_rfl))).2 _ rfl
      refine GJ.op hj (by kernel_rfl) hr rfl [17, 18, 19, 20, 21, 22, 23, 24, 25, 26, 27, 28, 29, 30, 31, 32, 33, 34, 35, 36, 3, 4, 5, 6] (by kernel_rfl) (fun K hK => ?_)
      simp only [Act.put, List.foldl_cons, List.foldl_nil, List.setIfInBounds_toArray, List.set_cons_zero, List.set_cons_succ] at hK ⊢
      clear hj hf
      rw [e1] at hK ⊢
      clear e1
      go_simp
      exact hK _ _ (fun k v _ _ h => h.keep (Below.refl _ _)) (fun t ht => SV.eq rfl rfl) hcm
    · have e1 : f 36 = .int .i64 D := (hf 19 _ _ rfl rfl (up_dep hr (by kernel_rfl))).2 _ rfl
      refine GJ.op hj (by kernel_rfl) hr rfl [17, 18, 19, 20, 21, 22, 23, 24, 25, 26, 27, 28, 29, 30, 31, 32, 33, 34, 35, 36, 3, 4, 5, 6] (by kernel_rfl) (fun K hK => ?_)
      simp only [Act.put, List.foldl_cons, List.foldl_nil, List.setIfInBounds_toArray, List.set_cons_zero, List.set_cons_succ] at hK ⊢
      clear hj hf
      rw [e1] at hK ⊢
      clear e1
      go_simp
      exact hK _ _ (fun k v _ _ h => h.keep (Below.refl _ _)) (fun t ht => SV.eq rfl rfl) hcm
  · intro listed a w10 hr hj
    have hu : ∀ k, k < 24 → up listed k := fun k hk => all_up (by kernel_rfl) hj.lsize hr k hk
    obtain ⟨f, rfl, hcm, hf⟩ := hj.opened [17, 18, 19, 20, 21, 22, 23, 24, 25, 26, 27, 28, 29, 30, 31, 32, 33, 34, 35, 36, 3, 4, 5, 6] (by kernel_rfl)
    replace hcm : Below W0.heap.size W0 w10 := hcm
    have e3 : f 3 = .int .i64 A := (hf 20 _ _ rfl rfl (hu 20 (by omega))).2 _ rfl
    have e4 : f 4 = .int .i64 B := (hf 21 _ _ rfl rfl (hu 21 (by omega))).2 _ rfl
    have e5 : f 5 = .int .i64 C := (hf 22 _ _ rfl rfl (hu 22 (by omega))).2 _ rfl
    have e6 : f 6 = .int .i64 D := (hf 23 _ _ rfl rfl (hu 23 (by omega))).2 _ rfl
    have HB : Hid (Below w.heap.size w w10) := HB0.out.trans (hcm.mono HB0.out.size)
    clear hf hj hr hu hcm k0 k1 k2 k3 k4 k5
    simp only [List.foldl_cons, List.foldl_nil, List.setIfInBounds_toArray, List.set_cons_zero, List.set_cons_succ]
    rw [e3, e4, e5, e6]
    clear e3 e4 e5 e6
    generalize f 17 = g17
    generalize f 18 = g18
    generalize f 19 = g19
    generalize f 20 = g20
    generalize f 21 = g21
    generalize f 22 = g22
    generalize f 23 = g23
    generalize f 24 = g24
    generalize f 25 = g25
    generalize f 26 = g26
    generalize f 27 = g27
    generalize f 28 = g28
    generalize f 29 = g29
    generalize f 30 = g30
    generalize f 31 = g31
    generalize f 32 = g32
    generalize f 33 = g33
    generalize f 34 = g34
    generalize f 35 = g35
    generalize f 36 = g36
    clear f
    go_wp2_with fail
    refine (ROf_c _ C D (by omega) (by omega) (by omega) (by omega)).mono ?_
    rw [HLO.out]
    rintro e w11 ⟨v, rfl, hv, hb11⟩
    have hv : IsF _ v (LO) := hv
    obtain ⟨va, vb, rfl, h1, h2⟩ := hv
    obtain ⟨pL, mL, rfl, _, _⟩ := h1.shape
    obtain ⟨qL, nL, rfl, _, _⟩ := h2.shape
    have FL := Lib.hid (IsF.at_ h1 h2)
    clear h1 h2
    replace HB := Lib.hid (HB.out.trans (hb11.mono HB.out.size))
    clear hb11
    have g_L : w.heap.size ≤ w11.heap.size := by have := HB.out.size; omega
    go_wp2_with fail
    refine (ROf_c _ A B (by omega) (by omega) (by omega) (by omega)).mono ?_
    rw [HHI.out]
    rintro e w12 ⟨v, rfl, hv, hb12⟩
    have hv : IsF _ v (HI) := hv
    obtain ⟨va, vb, rfl, h1, h2⟩ := hv
    obtain ⟨pH, mH, rfl, _, _⟩ := h1.shape
    obtain ⟨qH, nH, rfl, _, _⟩ := h2.shape
    have FH := Lib.hid (IsF.at_ h1 h2)
    clear h1 h2
    obtain ⟨hb12, CL⟩ := after_new hb12
    replace CL := Lib.hid CL
    replace FL := Lib.hid (FL.out.after hb12)
    replace HB := Lib.hid (HB.out.trans (hb12.mono HB.out.size))
    clear hb12
    have d_L_H : w11.heap.size < w12.heap.size := CL.out.lt
    have g_H : w.heap.size ≤ w12.heap.size := by have := HB.out.size; omega
    obtain ⟨cL0, cL1, cL2⟩ := CL.out.cells3
    have ltL := CL.out.lt
    go_wp2_with fail
    refine (Simplest_c _ _ _ LO HI (FL.out.alloc _) (FH.out.alloc _)).mono ?_
    rw [HS.out]
    rintro e w13 ⟨v, rfl, hv, hb13⟩
    have hv : IsF _ v (fr false 0 q) := hv
    obtain ⟨va, vb, rfl, h1, h2⟩ := hv
    obtain ⟨pZ, mZ, rfl, _, _⟩ := h1.shape
    obtain ⟨qZ, nZ, rfl, _, _⟩ := h2.shape
    have FZ := Lib.hid (IsF.at_ h1 h2)
    clear h1 h2
    clear cL0 cL1 cL2 ltL
    obtain ⟨hb13, CH⟩ := after_new hb13
    replace CH := Lib.hid CH
    replace CL := Lib.hid (CL.out.after hb13)
    replace FL := Lib.hid (FL.out.after hb13)
    replace FH := Lib.hid (FH.out.after hb13)
    replace HB := Lib.hid (HB.out.trans (hb13.mono HB.out.size))
    clear hb13
    have d_L_Z : w11.heap.size < w13.heap.size := CL.out.lt
    have d_H_Z : w12.heap.size < w13.heap.size := CH.out.lt
    have g_Z : w.heap.size ≤ w13.heap.size := by have := HB.out.size; omega
    obtain ⟨cL0, cL1, cL2⟩ := CL.out.cells3
    have ltL := CL.out.lt
    obtain ⟨cH0, cH1, cH2⟩ := CH.out.cells3
    have ltH := CH.out.lt
    go_wp2_with fail
    refine (Valid_c _ _ (fr false 0 q) (FZ.out.alloc _)).mono ?_
    intro e w14 hr
    obtain ⟨rfl, hb14⟩ := hr.yes HVZ.out
    clear hr
    clear cL0 cL1 cL2 ltL cH0 cH1 cH2 ltH
    obtain ⟨hb14, CZ⟩ := after_new hb14
    replace CZ := Lib.hid CZ
    replace CL := Lib.hid (CL.out.after hb14)
    replace CH := Lib.hid (CH.out.after hb14)
    replace FL := Lib.hid (FL.out.after hb14)
    replace FH := Lib.hid (FH.out.after hb14)
    replace FZ := Lib.hid (FZ.out.after hb14)
    replace HB := Lib.hid (HB.out.trans (hb14.mono HB.out.size))
    clear hb14
    obtain ⟨_, i1, i2⟩ := FZ.out.parts
    replace i1 : Sl _ _ (limbs 0) := i1
    replace i2 : Sl _ _ (limbs q) := i2
    rw [HLQ.out] at i2
    obtain ⟨bq, oq, cq, eq1, _, _, kq, lq⟩ := i2.one_cell
    simp only [fr, HLQ.out, List.length_cons, List.length_nil, Nat.zero_add] at eq1
    injection eq1 with eq1 _ eq3
    subst eq1 eq3
    simp only [fr, HLQ.out, limbs_zero, List.length_cons, List.length_nil, Nat.zero_add] at CZ
    clear i1 i2 FL FH FZ
    obtain ⟨cL0, cL1, cL2⟩ := CL.out.cells3
    have ltL := CL.out.lt
    obtain ⟨cH0, cH1, cH2⟩ := CH.out.cells3
    have ltH := CH.out.lt
    obtain ⟨cZ0, cZ1, cZ2⟩ := CZ.out.cells3
    have ltZ := CZ.out.lt
    go_upto_region 9 with fail
    have KQ := Lib.hid kq
    clear kq
    clear CL
    clear CH
    clear cL0 cL1 cL2 ltL cH0 cH1 cH2 ltH cZ0 cZ1 cZ2 ltZ
    refine wp_region_gj (J := GJ _ (fun _ => SV (fun _ => none) (fun κ => match κ with | 0 => some (.pointer (some ⟨w13.heap.size, 2, none⟩)) | 1 => some (.slice (some ⟨bq, oq, none⟩) 1 nZ) | 2 => some (.pointer (some ⟨bq, oq, none⟩)) | 3 => some (.int .u32 k) | 4 => some (.int .i64 k) | 5 => some (.int .i64 0) | 6 => some (.int .i64 k) | _ => none)) (fun _ _ w => Below w14.heap.size w14 w) _) (by kernel_rfl) ?_ ?_ (GJ.start (below_dr (Below.refl _ _)))
    · intro listed a w9 i hr hj
      obtain ⟨hi12, hun, _, _, _⟩ := ready_mem hr
      have h12 : i ∈ List.range 7 := List.mem_range.2 hi12
      simp only [List.range, List.range.loop, List.mem_cons, List.not_mem_nil, or_false] at h12
      obtain ⟨f, rfl, hcm, hf⟩ := hj.opened [92, 93, 94, 95, 96, 13, 14] (by kernel_rfl)
      have hcm : Below w14.heap.size w14 w9 := hcm
      rcases h12 with rfl | rfl | rfl | rfl | rfl | rfl | rfl
      · refine GJ.op hj (by kernel_rfl) hr rfl [92, 93, 94, 95, 96, 13, 14] (by kernel_rfl) (fun K hK => ?_)
        simp only [Act.put, List.foldl_cons, List.foldl_nil, List.setIfInBounds_toArray, List.set_cons_zero, List.set_cons_succ] at hK ⊢
        clear hj hf
        go_simp
        exact hK _ _ (fun k v _ _ h => h.keep (Below.refl _ _)) (fun t ht => SV.eq rfl rfl) hcm
      · have e1 : f 92 = .pointer (some ⟨w13.heap.size, 2, none⟩) := (hf 0 _ _ rfl rfl (up_dep hr (by kernel_rfl))).2 _ rfl
        obtain ⟨k0, k1, k2⟩ := (CZ.out.after hcm).cells3
        have klt := (CZ.out.after hcm).lt
        refine GJ.op hj (by kernel_rfl) hr rfl [92, 93, 94, 95, 96, 13, 14] (by kernel_rfl) (fun K hK => ?_)
        simp only [Act.put, List.foldl_cons, List.foldl_nil, List.setIfInBounds_toArray, List.set_cons_zero, List.set_cons_succ] at hK ⊢
        clear hj hf
        rw [e1] at hK ⊢
        clear e1
        go_simp
        exact hK _ _ (fun k v _ _ h => h.keep (Below.refl _ _)) (fun t ht => SV.eq rfl rfl) hcm
      · have e1 : f 93 = .slice (some ⟨bq, oq, none⟩) 1 nZ := (hf 1 _ _ rfl rfl (up_dep hr (by kernel_rfl))).2 _ rfl
        refine GJ.op hj (by kernel_rfl) hr rfl [92, 93, 94, 95, 96, 13, 14] (by kernel_rfl) (fun K hK => ?_)
        simp only [Act.put, List.foldl_cons, List.foldl_nil, List.setIfInBounds_toArray, List.set_cons_zero, List.set_cons_succ] at hK ⊢
        clear hj hf
        rw [e1] at hK ⊢
        clear e1
        go_simp
        exact hK _ _ (fun k v _ _ h => h.keep (Below.refl _ _)) (fun t ht => SV.eq rfl rfl) hcm
      · have e1 : f 94 = .pointer (some ⟨bq, oq, none⟩) := (hf 2 _ _ rfl rfl (up_dep hr (by kernel_rfl))).2 _ rfl
        have kc := keep_cell hcm KQ.out
        have klt := World.block_lt_of_cell? _ _ kc
        simp only at klt
        refine GJ.op hj (by kernel_rfl) hr rfl [92, 93, 94, 95, 96, 13, 14] (by kernel_rfl) (fun K hK => ?_)
        simp only [Act.put, List.foldl_cons, List.foldl_nil, List.setIfInBounds_toArray, List.set_cons_zero, List.set_cons_succ] at hK ⊢
        clear hj hf
        rw [e1] at hK ⊢
        clear e1
        go_simp
        exact hK _ _ (fun k v _ _ h => h.keep (Below.refl _ _)) (fun t ht => SV.eq rfl rfl) hcm
      · have e1 : f 95 = .int .u32 k := (hf 3 _ _ rfl rfl (up_dep hr (by kernel_rfl))).2 _ rfl
        refine GJ.op hj (by kernel_rfl) hr rfl [92, 93, 94, 95, 96, 13, 14] (by kernel_rfl) (fun K hK => ?_)
        simp only [Act.put, List.foldl_cons, List.foldl_nil, List.setIfInBounds_toArray, List.set_cons_zero, List.set_cons_succ] at hK ⊢
        clear hj hf
        rw [e1] at hK ⊢
        clear e1
        go_simp
        exact hK _ _ (fun k v _ _ h => h.keep (Below.refl _ _)) (fun t ht => SV.eq rfl rfl) hcm
      · refine GJ.op hj (by kernel_rfl) hr rfl [92, 93, 94, 95, 96, 13, 14] (by kernel_rfl) (fun K hK => ?_)
        simp only [Act.put, List.foldl_cons, List.foldl_nil, List.setIfInBounds_toArray, List.set_cons_zero, List.set_cons_succ] at hK ⊢
        clear hj hf
        go_simp
        exact hK _ _ (fun k v _ _ h => h.keep (Below.refl _ _)) (fun t ht => SV.eq rfl rfl) hcm
      · have e1 : f 96 = .int .i64 k := (hf 4 _ _ rfl rfl (up_dep hr (by kernel_rfl))).2 _ rfl
        refine GJ.op hj (by kernel_rfl) hr rfl [92, 93, 94, 95, 96, 13, 14] (by kernel_rfl) (fun K hK => ?_)
        simp only [Act.put, List.foldl_cons, List.foldl_nil, List.setIfInBounds_toArray, List.set_cons_zero, List.set_cons_succ] at hK ⊢
        clear hj hf
        rw [e1] at hK ⊢
        clear e1
        go_simp
        exact hK _ _ (fun k v _ _ h => h.keep (Below.refl _ _)) (fun t ht => SV.eq rfl rfl) hcm
    · intro listed a w15 hr hj
      have hu : ∀ k, k < 7 → up listed k := fun k hk => all_up (by kernel_rfl) hj.lsize hr k hk
      obtain ⟨f, rfl, hcm, hf⟩ := hj.opened [92, 93, 94, 95, 96, 13, 14] (by kernel_rfl)
      replace hcm : Below w14.heap.size w14 w15 := hcm
      have e13 : f 13 = .int .i64 0 := (hf 5 _ _ rfl rfl (hu 5 (by omega))).2 _ rfl
      have e14 : f 14 = .int .i64 k := (hf 6 _ _ rfl rfl (hu 6 (by omega))).2 _ rfl
      replace HB : Hid (Below w.heap.size w w15) := Lib.hid (HB.out.trans (hcm.mono HB.out.size))
      replace CZ := Lib.hid (CZ.out.after hcm)
      replace lq := Nat.lt_of_lt_of_le lq hcm.size
      have kq := keep_cell hcm KQ.out
      clear hf hj hr hu hcm KQ
      simp only [List.foldl_cons, List.foldl_nil, List.setIfInBounds_toArray, List.set_cons_zero, List.set_cons_succ]
      rw [e13, e14]
      clear e13 e14
      generalize f 92 = g92
      generalize f 93 = g93
      generalize f 94 = g94
      generalize f 95 = g95
      generalize f 96 = g96
      clear f
      obtain ⟨cZ0, cZ1, cZ2⟩ := CZ.out.cells3
      have ltZ := CZ.out.lt
      go_wp2_with fail
      clear cZ0 cZ1 cZ2 ltZ
      clear CZ HLO HHI HS HVZ HLQ  kq lq
      clear g_L d_L_H g_H d_L_Z d_H_Z g_Z
      go_loopg [15] (q - 1) (fun g t wx => ∃ j : Nat, 1 ≤ j ∧ j ≤ q ∧ g = q - j ∧ t = .int .i64 (j : Int) ∧ Hid (Below w.heap.size w wx))
      case atStart => exact ⟨1, Nat.le_refl _, hq0, rfl, rfl, HB.out⟩
      case round =>
        obtain ⟨j, hj1, hjq, rfl, rfl, hbl⟩ := hrel
        clear HB
        by_cases hlt : j < q
        · have hjk : (j : Int) < k := by omega
          have hdj : decide ((j : Int) < k) = true := decide_eq_true hjk
          have hbad := HLOOP.out j hj1 hlt
          have b1 := mulb (x := A) (y := (j : Int)) (X := 300) (Y := 60) (by omega) (by omega) (by omega) (by omega)
          have b2 := floor_bd (n := A * (j : Int)) (d := B) (X := 300 * 60) (by omega) b1.1 b1.2
          obtain ⟨G, hG⟩ : ∃ G, A * (j : Int) / B = G := ⟨_, rfl⟩
          rw [hG] at b2 hbad
          have b3 := mulb (x := G) (y := D) (X := 20000) (Y := 60) (by omega) (by omega) (by omega) (by omega)
          have b4 := mulb (x := C) (y := (j : Int)) (X := 300) (Y := 60) (by omega) (by omega) (by omega) (by omega)
          obtain ⟨b1a, b1b⟩ := b1
          obtain ⟨b3a, b3b⟩ := b3
          obtain ⟨b4a, b4b⟩ := b4
          have hG2 := Lib.hid hG
          clear b2 hG
          go_wp2_with fail
          refine (floor_c _ (A * (j : Int)) B (by omega) (by omega) (by omega)).mono ?_
          rw [hG2.out]
          rintro e w20 ⟨rfl, hb20⟩
          replace hbl := Lib.hid (hbl.out.trans (hb20.mono hbl.out.size))
          clear hb20 hG2
          go_wp2_with fail
          go_roundg (q - (j + 1))
          case measure => omega
          case rel => exact ⟨j + 1, by omega, by omega, rfl, by go_num, hbl⟩
        · obtain rfl : j = q := by omega
          have hdj : decide (k < k) = false := decide_eq_false (by omega)
          clear hlt HLOOP
          go_wp2_with fail
          refine (rworks_c _).mono ?_
          rintro e w21 ⟨rfl, hb21⟩
          replace hbl := Lib.hid (hbl.out.trans (hb21.mono hbl.out.size))
          clear hb21
          go_wp2_with fail
          go_ret
          exact ⟨rfl, hbl.out⟩
set_option maxRecDepth 100000 in
set_option maxHeartbeats 16000000 in
theorem simplest_1p (w : World) (a b c d e f' : Int) (a0 : -32768 ≤ a) (a1 : a ≤ 32767) (b0 : -32768 ≤ b) (b1 : b ≤ 32767) (c0 : -32768 ≤ c) (c1 : c ≤ 32767) (d0 : -32768 ≤ d) (d1 : d ≤ 32767)
    (A B1 B2 B C D1 D2 D k : Int) (q p : Nat) (LO HI : F) (hA : a.tmod 300 = A) (hB1 : bits .and .i64 b 1023 = B1) (hB2 : B1.tmod 60 = B2) (hB3 : B1 % 60 = B2) (hB : 1 + B2 = B) (hC : c.tmod 300 = C) (hD1 : bits .and .i64 d 1023 = D1) (hD2 : D1.tmod 60 = D2) (hD3 : D1 % 60 = D2) (hD : 1 + D2 = D)
    (Al : -299 ≤ A) (Ah : A ≤ 299) (B1l : 0 ≤ B1) (B1h : B1 ≤ 1023) (B2l : 0 ≤ B2) (B2h : B2 ≤ 59) (Bl : 1 ≤ B) (Bh : B ≤ 60) (Cl : -299 ≤ C) (Ch : C ≤ 299) (D1l : 0 ≤ D1) (D1h : D1 ≤ 1023) (D2l : 0 ≤ D2) (D2h : D2 ≤ 59) (Dl : 1 ≤ D) (Dh : D ≤ 60)
    (pAD : -18000 ≤ A * D) (pAD' : A * D ≤ 18000) (pCB : -18000 ≤ C * B) (pCB' : C * B ≤ 18000) (hsw : decide (C * B < A * D) = true)
    (HLO : Hid (ofF C D = (LO, 0))) (HHI : Hid (ofF A B = (HI, 0))) (HS : Hid (simplestF LO HI = (fr false p q, 0))) (HVZ : Hid (ValidF (fr false p q))) (HLQ : Hid (limbs q = [q])) (hq0 : 1 ≤ q) (hq1 : q ≤ 60) (hq2 : decide (60 < q) = false) (hk : (q : Int) = k) (kl : 1 ≤ k) (kh : k ≤ 60)
    (pxk : -18000 ≤ C * k) (pxk' : C * k ≤ 18000) (puk : -18000 ≤ A * k) (puk' : A * k ≤ 18000)
    (n m : Int) (hp0 : 0 < p) (hp1 : p < 300) (HLP : Hid (limbs p = [p])) (hn : (p : Int) = n) (nl : -300 ≤ n) (nh : n ≤ 300) (hm : n - 1 = m) (ml : -300 ≤ m) (mh : m ≤ 300) (hn0 : decide (n < 0) = false) (hnz : (n == 0) = false)
    (pny : -18000 ≤ n * D) (pny' : n * D ≤ 18000) (pnv : -18000 ≤ n * B) (pnv' : n * B ≤ 18000) (h1 : decide (n * D < C * k) = false) (h2 : decide (A * k < n * B) = false)
    (pmy : -18000 ≤ m * D) (pmy' : m * D ≤ 18000) (pmv : -18000 ≤ m * B) (pmv' : m * B ≤ 18000) (HM : Hid (decide (m * D < C * k) = true ∨ decide (m * D < C * k) = false ∧ decide (A * k < m * B) = true))
    (HLOOP : Hid (∀ j : Nat, 1 ≤ j → j < q → decide (C * (j : Int) ≤ A * (j : Int) / B * D) = false)) :
    Calls Try.prog 10 #[.agg #[.int .i16 a, .int .i16 b, .int .i16 c, .int .i16 d, .int .i16 e, .int .i16 f']] w fun e w' => e = .returned (.bool true) ∧ Below w.heap.size w w' := by
  obtain ⟨W0, hW⟩ : ∃ W0, W0 = w.alloc (.cells #[.int .i16 a, .int .i16 b, .int .i16 c, .int .i16 d, .int .i16 e, .int .i16 f'] 47) := ⟨_, rfl⟩
  have hb0 : Below w.heap.size w W0 := hW ▸ held_alloc (Below.refl _ w)
  have bx : Box W0 w.heap.size #[.int .i16 a, .int .i16 b, .int .i16 c, .int .i16 d, .int .i16 e, .int .i16 f'] 47 := hW ▸ Box.new w _ _
  have k0 : W0.cell? ⟨w.heap.size, 0, none⟩ = some (.int .i16 a) := bx.cell 0
  have k1 : W0.cell? ⟨w.heap.size, 1, none⟩ = some (.int .i16 b) := bx.cell 1
  have k2 : W0.cell? ⟨w.heap.size, 2, none⟩ = some (.int .i16 c) := bx.cell 2
  have k3 : W0.cell? ⟨w.heap.size, 3, none⟩ = some (.int .i16 d) := bx.cell 3
  have k4 : W0.cell? ⟨w.heap.size, 4, none⟩ = some (.int .i16 e) := bx.cell 4
  have k5 : W0.cell? ⟨w.heap.size, 5, none⟩ = some (.int .i16 f') := bx.cell 5
  have HB0 := Lib.hid hb0
  clear hb0 bx
  have wk : IntKind.i64.wrap k = k := wrap_in (by omega) (by omega)
  have wa : IntKind.i64.wrap a = a := wrap_in (by omega) (by omega)
  have wb : IntKind.i64.wrap b = b := wrap_in (by omega) (by omega)
  have wc : IntKind.i64.wrap c = c := wrap_in (by omega) (by omega)
  have wd : IntKind.i64.wrap d = d := wrap_in (by omega) (by omega)
  have wB : IntKind.i64.wrap B = B := wrap_in (by omega) (by omega)
  have wD : IntKind.i64.wrap D = D := wrap_in (by omega) (by omega)
  go_enter Try.func10, Try.ntmps10
  go_upto_region 1 with fail
  rw [← hW]
  clear hW
  refine wp_region_gj (J := GJ _ (fun _ => SV (fun _ => none) (fun κ => match κ with | 0 => some (.pointer (some ⟨w.heap.size, 0, none⟩)) | 1 => some (.int .i16 a) | 2 => some (.int .i64 a) | 3 => some (.int .i64 A) | 4 => some (.pointer (some ⟨w.heap.size, 1, none⟩)) | 5 => some (.int .i16 b) | 6 => some (.int .i64 b) | 7 => some (.int .i64 B1) | 8 => some (.int .i64 B2) | 9 => some (.int .i64 B) | 10 => some (.pointer (some ⟨w.heap.size, 2, none⟩)) | 11 => some (.int .i16 c) | 12 => some (.int .i64 c) | 13 => some (.int .i64 C) | 14 => some (.pointer (some ⟨w.heap.size, 3, none⟩)) | 15 => some (.int .i16 d) | 16 => some (.int .i64 d) | 17 => some (.int .i64 D1) | 18 => some (.int .i64 D2) | 19 => some (.int .i64 D) | 20 => some (.int .i64 A) | 21 => some (.int .i64 B) | 22 => some (.int .i64 C) | 23 => some (.int .i64 D) | _ => none)) (fun _ _ w => Below W0.heap.size W0 w) _) (by kernel_rfl) ?_ ?_ (GJ.start (below_dr (Below.refl _ _)))
  · intro listed a w9 i hr hj
    obtain ⟨hi12, hun, _, _, _⟩ := ready_mem hr
    have h12 : i ∈ List.range 24 := List.mem_range.2 hi12
    simp only [List.range, List.range.loop, List.mem_cons, List.not_mem_nil, or_false] at h12
    obtain ⟨f, rfl, hcm, hf⟩ := hj.opened [17, 18, 19, 20, 21, 22, 23, 24, 25, 26, 27, 28, 29, 30, 31, 32, 33, 34, 35, 36, 3, 4, 5, 6] (by kernel_rfl)
    have hcm : Below W0.heap.size W0 w9 := hcm
    rcases h12 with rfl | rfl | rfl | rfl | rfl | rfl | rfl | rfl | rfl | rfl | rfl | rfl | rfl | rfl | rfl | rfl | rfl | rfl | rfl | rfl | rfl | rfl | rfl | rfl
    · refine GJ.op hj (by kernel_rfl) hr rfl [17, 18, 19, 20, 21, 22, 23, 24, 25, 26, 27, 28, 29, 30, 31, 32, 33, 34, 35, 36, 3, 4, 5, 6] (by kernel_rfl) (fun K hK => ?_)
      simp only [Act.put, List.foldl_cons, List.foldl_nil, List.setIfInBounds_toArray, List.set_cons_zero, List.set_cons_succ] at hK ⊢
      clear hj hf
      go_simp
      exact hK _ _ (fun k v _ _ h => h.keep (Below.refl _ _)) (fun t ht => SV.eq rfl rfl) hcm
    · have e1 : f 17 = .pointer (some ⟨w.heap.size, 0, none⟩) := (hf 0 _ _ rfl rfl (up_dep hr (by kernel_rfl))).2 _ rfl
      have kc := keep_cell hcm k0
      have klt := World.block_lt_of_cell? _ _ kc
      simp only at klt
      refine GJ.op hj (by kernel_rfl) hr rfl [17, 18, 19, 20, 21, 22, 23, 24, 25, 26, 27, 28, 29, 30, 31, 32, 33, 34, 35, 36, 3, 4, 5, 6] (by kernel_rfl) (fun K hK => ?_)
      simp only [Act.put, List.foldl_cons, List.foldl_nil, List.setIfInBounds_toArray, List.set_cons_zero, List.set_cons_succ] at hK ⊢
      clear hj hf
      rw [e1] at hK ⊢
      clear e1
      go_simp
      exact hK _ _ (fun k v _ _ h => h.keep (Below.refl _ _)) (fun t ht => SV.eq rfl rfl) hcm
    · have e1 : f 18 = .int .i16 a := (hf 1 _ _ rfl rfl (up_dep hr (by kernel_rfl))).2 _ rfl
      refine GJ.op hj (by kernel_rfl) hr rfl [17, 18, 19, 20, 21, 22, 23, 24, 25, 26, 27, 28, 29, 30, 31, 32, 33, 34, 35, 36, 3, 4, 5, 6] (by kernel_rfl) (fun K hK => ?_)
      simp only [Act.put, List.foldl_cons, List.foldl_nil, List.setIfInBounds_toArray, List.set_cons_zero, List.set_cons_succ] at hK ⊢
      clear hj hf
      rw [e1] at hK ⊢
      clear e1
      go_simp
      exact hK _ _ (fun k v _ _ h => h.keep (Below.refl _ _)) (fun t ht => SV.eq rfl rfl) hcm
    · have e1 : f 19 = .int .i64 a := (hf 2 _ _ rfl rfl (up_dep hr (by kernel_rfl))).2 _ rfl
      refine GJ.op hj (by kernel_rfl) hr rfl [17, 18, 19, 20, 21, 22, 23, 24, 25, 26, 27, 28, 29, 30, 31, 32, 33, 34, 35, 36, 3, 4, 5, 6] (by kernel_rfl) (fun K hK => ?_)
      simp only [Act.put, List.foldl_cons, List.foldl_nil, List.setIfInBounds_toArray, List.set_cons_zero, List.set_cons_succ] at hK ⊢
      clear hj hf
      rw [e1] at hK ⊢
      clear e1
      go_simp
      exact hK _ _ (fun k v _ _ h => h.keep (Below.refl _ _)) (fun t ht => SV.eq rfl rfl) hcm
    · refine GJ.op hj (by kernel_rfl) hr rfl [17, 18, 19, 20, 21, 22, 23, 24, 25, 26, 27, 28, 29, 30, 31, 32, 33, 34, 35, 36, 3, 4, 5, 6] (by kernel_rfl) (fun K hK => ?_)
      simp only [Act.put, List.foldl_cons, List.foldl_nil, List.setIfInBounds_toArray, List.set_cons_zero, List.set_cons_succ] at hK ⊢
      clear hj hf
      go_simp
      exact hK _ _ (fun k v _ _ h => h.keep (Below.refl _ _)) (fun t ht => SV.eq rfl rfl) hcm
    · have e1 : f 21 = .pointer (some ⟨w.heap.size, 1, none⟩) := (hf 4 _ _ rfl rfl (up_dep hr (by kernel_rfl))).2 _ rfl
      have kc := keep_cell hcm k1
      have klt := World.block_lt_of_cell? _ _ kc
      simp only at klt
      refine GJ.op hj (by kernel_rfl) hr rfl [17, 18, 19, 20, 21, 22, 23, 24, 25, 26, 27, 28, 29, 30, 31, 32, 33, 34, 35, 36, 3, 4, 5, 6] (by kernel_rfl) (fun K hK => ?_)
      simp only [Act.put, List.foldl_cons, List.foldl_nil, List.setIfInBounds_toArray, List.set_cons_zero, List.set_cons_succ] at hK ⊢
      clear hj hf
      rw [e1] at hK ⊢
      clear e1
      go_simp
      exact hK _ _ (fun k v _ _ h => h.keep (Below.refl _ _)) (fun t ht => SV.eq rfl rfl) hcm
    · have e1 : f 22 = .int .i16 b := (hf 5 _ _ rfl rfl (up_dep hr (by kernel_rfl))).2 _ rfl
      refine GJ.op hj (by kernel_rfl) hr rfl [17, 18, 19, 20, 21, 22, 23, 24, 25, 26, 27, 28, 29, 30, 31, 32, 33, 34, 35, 36, 3, 4, 5, 6] (by kernel_rfl) (fun K hK => ?_)
      simp only [Act.put, List.foldl_cons, List.foldl_nil, List.setIfInBounds_toArray, List.set_cons_zero, List.set_cons_succ] at hK ⊢
      clear hj hf
      rw [e1] at hK ⊢
      clear e1
      go_simp
      exact hK _ _ (fun k v _ _ h => h.keep (Below.refl _ _)) (fun t ht => SV.eq rfl rfl) hcm
    · have e1 : f 23 = .int .i64 b := (hf 6 _ _ rfl rfl (up_dep hr (by kernel_rfl))).2 _ rfl
      refine GJ.op hj (by kernel_rfl) hr rfl [17, 18, 19, 20, 21, 22, 23, 24, 25, 26, 27, 28, 29, 30, 31, 32, 33, 34, 35, 36, 3, 4, 5, 6] (by kernel_rfl) (fun K hK => ?_)
      simp only [Act.put, List.foldl_cons, List.foldl_nil, List.setIfInBounds_toArray, List.set_cons_zero, List.set_cons_succ] at hK ⊢
      clear hj hf
      rw [e1] at hK ⊢
      clear e1
      go_simp
      exact hK _ _ (fun k v _ _ h => h.keep (Below.refl _ _)) (fun t ht => SV.eq rfl rfl) hcm
    · have e1 : f 24 = .int .i64 B1 := (hf 7 _ _ rfl rfl (up_dep hr (by kernel_rfl))).2 _ rfl
      refine GJ.op hj (by kernel_rfl) hr rfl [17, 18, 19, 20, 21, 22, 23, 24, 25, 26, 27, 28, 29, 30, 31, 32, 33, 34, 35, 36, 3, 4, 5, 6] (by kernel_rfl) (fun K hK => ?_)
      simp only [Act.put, List.foldl_cons, List.foldl_nil, List.setIfInBounds_toArray, List.set_cons_zero, List.set_cons_succ] at hK ⊢
      clear hj hf
      rw [e1] at hK ⊢
      clear e1
      go_simp
      exact hK _ _ (fun k v _ _ h => h.keep (Below.refl _ _)) (fun t ht => SV.eq rfl rfl) hcm
    · have e1 : f 25 = .int .i64 B2 := (hf 8 _ _ rfl rfl (up_dep hr (by kernel_rfl))).2 _ rfl
      refine GJ.op hj (by kernel_rfl) hr rfl [17, 18, 19, 20, 21, 22, 23, 24, 25, 26, 27, 28, 29, 30, 31, 32, 33, 34, 35, 36, 3, 4, 5, 6] (by kernel_rfl) (fun K hK => ?_)
      simp only [Act.put, List.foldl_cons, List.foldl_nil, List.setIfInBounds_toArray, List.set_cons_zero, List.set_cons_succ] at hK ⊢
      clear hj hf
      rw [e1] at hK ⊢
      clear e1
      go_simp
      exact hK _ _ (fun k v _ _ h => h.keep (Below.refl _ _)) (fun t ht => SV.eq rfl rfl) hcm
    · refine GJ.op hj (by kernel_rfl) hr rfl [17, 18, 19, 20, 21, 22, 23, 24, 25, 26, 27, 28, 29, 30, 31, 32, 33, 34, 35, 36, 3, 4, 5, 6] (by kernel_rfl) (fun K hK => ?_)
      simp only [Act.put, List.foldl_cons, List.foldl_nil, List.setIfInBounds_toArray, List.set_cons_zero, List.set_cons_succ] at hK ⊢
      clear hj hf
      go_simp
      exact hK _ _ (fun k v _ _ h => h.keep (Below.refl _ _)) (fun t ht => SV.eq rfl rfl) hcm
    · have e1 : f 27 = .pointer (some ⟨w.heap.size, 2, none⟩) := (hf 10 _ _ rfl rfl (up_dep hr (by kernel_rfl))).2 _ rfl
      have kc := keep_cell hcm k2
      have klt := World.block_lt_of_cell? _ _ kc
      simp only at klt
      refine GJ.op hj (by kernel_rfl) hr rfl [17, 18, 19, 20, 21, 22, 23, 24, 25, 26, 27, 28, 29, 30, 31, 32, 33, 34, 35, 36, 3, 4, 5, 6] (by kernel_rfl) (fun K hK => ?_)
      simp only [Act.put, List.foldl_cons, List.foldl_nil, List.setIfInBounds_toArray, List.set_cons_zero, List.set_cons_succ] at hK ⊢
      clear hj hf
      rw [e1] at hK ⊢
      clear e1
      go_simp
      exact hK _ _ (fun k v _ _ h => h.keep (Below.refl _ _)) (fun t ht => SV.eq rfl rfl) hcm
    · have e1 : f 28 = .int .i16 c := (hf 11 _ _ rfl rfl (up_dep hr (by kernel_rfl))).2 _ rfl
      refine GJ.op hj (by kernel_rfl) hr rfl [17, 18, 19, 20, 21, 22, 23, 24, 25, 26, 27, 28, 29, 30, 31, 32, 33, 34, 35, 36, 3, 4, 5, 6] (by kernel_rfl) (fun K hK => ?_)
      simp only [Act.put, List.foldl_cons, List.foldl_nil, List.setIfInBounds_toArray, List.set_cons_zero, List.set_cons_succ] at hK ⊢
      clear hj hf
      rw [e1] at hK ⊢
      clear e1
      go_simp
      exact hK _ _ (fun k v _ _ h => h.keep (Below.refl _ _)) (fun t ht => SV.eq rfl rfl) hcm
    · have e1 : f 29 = .int .i64 c := (hf 12 _ _ rfl rfl (up_dep hr (by kernel_rfl))).2 _ rfl
      refine GJ.op hj (by kernel_rfl) hr rfl [17, 18, 19, 20, 21, 22, 23, 24, 25, 26, 27, 28, 29, 30, 31, 32, 33, 34, 35, 36, 3, 4, 5, 6] (by kernel_rfl) (fun K hK => ?_)
      simp only [Act.put, List.foldl_cons, List.foldl_nil, List.setIfInBounds_toArray, List.set_cons_zero, List.set_cons_succ] at hK ⊢
      clear hj hf
      rw [e1] at hK ⊢
      clear e1
      go_simp
      exact hK _ _ (fun k v _ _ h => h.keep (Below.refl _ _)) (fun t ht => SV.eq rfl rfl) hcm
    · refine GJ.op hj (by kernel_rfl) hr rfl [17, 18, 19, 20, 21, 22, 23, 24, 25, 26, 27, 28, 29, 30, 31, 32, 33, 34, 35, 36, 3, 4, 5, 6] (by kernel_rfl) (fun K hK => ?_)
      simp only [Act.put, List.foldl_cons, List.foldl_nil, List.setIfInBounds_toArray, List.set_cons_zero, List.set_cons_succ] at hK ⊢
      clear hj hf
      go_simp
      exact hK _ _ (fun k v _ _ h => h.keep (Below.refl _ _)) (fun t ht => SV.eq rfl rfl) hcm
    · have e1 : f 31 = .pointer (some ⟨w.heap.size, 3, none⟩) := (hf 14 _ _ rfl rfl (up_dep hr (by kernel_rfl))).2 _ rfl
      have kc := keep_cell hcm k3
      have klt := World.block_lt_of_cell? _ _ kc
      simp only at klt
      refine GJ.op hj (by kernel_rfl) hr rfl [17, 18, 19, 20, 21, 22, 23, 24, 25, 26, 27, 28, 29, 30, 31, 32, 33, 34, 35, 36, 3, 4, 5, 6] (by kernel_rfl) (fun K hK => ?_)
      simp only [Act.put, List.foldl_cons, List.foldl_nil, List.setIfInBounds_toArray, List.set_cons_zero, List.set_cons_succ] at hK ⊢
      clear hj hf
      rw [e1] at hK ⊢
      clear e1
      go_simp
      exact hK _ _ (fun k v _ _ h => h.keep (Below.refl _ _)) (fun t ht => SV.eq rfl rfl) hcm
    · have e1 : f 32 = .int .i16 d := (hf 15 _ _ rfl rfl (up_dep hr (by kernel_rfl))).2 _ rfl
      refine GJ.op hj (by kernel_rfl) hr rfl [17, 18, 19, 20, 21, 22, 23, 24, 25, 26, 27, 28, 29, 30, 31, 32, 33, 34, 35, 36, 3, 4, 5, 6] (by kernel_rfl) (fun K hK => ?_)
      simp only [Act.put, List.foldl_cons, List.foldl_nil, List.setIfInBounds_toArray, List.set_cons_zero, List.set_cons_succ] at hK ⊢
      clear hj hf
      rw [e1] at hK ⊢
      clear e1
      go_simp
      exact hK _ _ (fun k v _ _ h => h.keep (Below.refl _ _)) (fun t ht => SV.eq rfl rfl) hcm
    · have e1 : f 33 = .int .i64 d := (hf 16 _ _ rfl rfl (up_dep hr (by kernel_rfl))).2 _ rfl
      refine GJ.op hj (by kernel_rfl) hr rfl [17, 18, 19, 20, 21, 22, 23, 24, 25, 26, 27, 28, 29, 30, 31, 32, 33, 34, 35, 36, 3, 4, 5, 6] (by kernel_rfl) (fun K hK => ?_)
      simp only [Act.put, List.foldl_cons, List.foldl_nil, List.setIfInBounds_toArray, List.set_cons_zero, List.set_cons_succ] at hK ⊢
      clear hj hf
      rw [e1] at hK ⊢
      clear e1
      go_simp
      exact hK _ _ (fun k v _ _ h => h.keep (Below.refl _ _)) (fun t ht => SV.eq rfl rfl) hcm
    · have e1 : f 34 = .int .i64 D1 := (hf 17 _ _ rfl rfl (up_dep hr (by kernel_rfl))).2 _ rfl
      refine GJ.op hj (by kernel_rfl) hr rfl [17, 18, 19, 20, 21, 22, 23, 24, 25, 26, 27, 28, 29, 30, 31, 32, 33, 34, 35, 36, 3, 4, 5, 6] (by kernel_rfl) (fun K hK => ?_)
      simp only [Act.put, List.foldl_cons, List.foldl_nil, List.setIfInBounds_toArray, List.set_cons_zero, List.set_cons_succ] at hK ⊢
      clear hj hf
      rw [e1] at hK ⊢
      clear e1
      go_simp
      exact hK _ _ (fun k v _ _ h => h.keep (Below.refl _ _)) (fun t ht => SV.eq rfl rfl) hcm
    · have e1 : f 35 = .int .i64 D2 := (hf 18 _ _ rfl rfl (up_dep hr (by kernel_rfl))).2 _ rfl
      refine GJ.op hj (by kernel_rfl) hr rfl [17, 18, 19, 20, 21, 22, 23, 24, 25, 26, 27, 28, 29, 30, 31, 32, 33, 34, 35, 36, 3, 4, 5, 6] (by kernel_rfl) (fun K hK => ?_)
      simp only [Act.put, List.foldl_cons, List.foldl_nil, List.setIfInBounds_toArray, List.set_cons_zero, List.set_cons_succ] at hK ⊢
      clear hj hf
      rw [e1] at hK ⊢
      clear e1
      go_simp
      exact hK _ _ (fun k v _ _ h => h.keep (Below.refl _ _)) (fun t ht => SV.eq rfl rfl) hcm
    · have e1 : f 20 = .int .i64 A := (hf 3 _ _ rfl rfl (up_dep hr (by kernel_rfl))).2 _ rfl
      refine GJ.op hj (by kernel_rfl) hr rfl [17, 18, 19, 20, 21, 22, 23, 24, 25, 26, 27, 28, 29, 30, 31, 32, 33, 34, 35, 36, 3, 4, 5, 6] (by kernel_rfl) (fun K hK => ?_)
      simp only [Act.put, List.foldl_cons, List.foldl_nil, List.setIfInBounds_toArray, List.set_cons_zero, List.set_cons_succ] at hK ⊢
      clear hj hf
      rw [e1] at hK ⊢
      clear e1
      go_simp
      exact hK _ _ (fun k v _ _ h => h.keep (Below.refl _ _)) (fun t ht => SV.eq rfl rfl) hcm
    · have e1 : f 26 = .int .i64 B := (hf 9 _ _ rfl rfl (up_dep hr (by kernel_rfl))).2 _ rfl
      refine GJ.op hj (by kernel_rfl) hr rfl [17, 18, 19, 20, 21, 22, 23, 24, 25, 26, 27, 28, 29, 30, 31, 32, 33, 34, 35, 36, 3, 4, 5, 6] (by kernel_rfl) (fun K hK => ?_)
      simp only [Act.put, List.foldl_cons, List.foldl_nil, List.setIfInBounds_toArray, List.set_cons_zero, List.set_cons_succ] at hK ⊢
      clear hj hf
      rw [e1] at hK ⊢
      clear e1
      go_simp
      exact hK _ _ (fun k v _ _ h => h.keep (Below.refl _ _)) (fun t ht => SV.eq rfl rfl) hcm
    · have e1 : f 30 = .int .i64 C := (hf 13 _ _ rfl rfl (up_dep hr (by kernel_rfl))).2 _ rfl
      refine GJ.op hj (by kernel_rfl) hr rfl [17, 18, 19, 20, 21, 22, 23, 24, 25, 26, 27, 28, 29, 30, 31, 32, 33, 34, 35, 36, 3, 4, 5, 6] (by kernel_rfl) (fun K hK => ?_)
      simp only [Act.put, List.foldl_cons, List.foldl_nil, List.setIfInBounds_toArray, List.set_cons_zero, List.set_cons_succ] at hK ⊢
      clear hj hf
      rw [e1] at hK ⊢
      clear e1
      go_simp
      exact hK _ _ (fun k v _ _ h => h.keep (Below.refl _ _)) (fun t ht => SV.eq rfl rfl) hcm
    · have e1 : f 36 = .int .i64 D := (hf 19 _ _ rfl rfl (up_dep hr (by kernel_rfl))).2 _ rfl
      refine GJ.op hj (by kernel_rfl) hr rfl [17, 18, 19, 20, 21, 22, 23, 24, 25, 26, 27, 28, 29, 30, 31, 32, 33, 34, 35, 36, 3, 4, 5, 6] (by kernel_rfl) (fun K hK => ?_)
      simp only [Act.put, List.foldl_cons, List.foldl_nil, List.setIfInBounds_toArray, List.set_cons_zero, List.set_cons_succ] at hK ⊢
      clear hj hf
      rw [e1] at hK ⊢
      clear e1
      go_simp
      exact hK _ _ (fun k v _ _ h => h.keep (Below.refl _ _)) (fun t ht => SV.eq rfl rfl) hcm
  · intro listed a w10 hr hj
    have hu : ∀ k, k < 24 → up listed k := fun k hk => all_up (by kernel_rfl) hj.lsize hr k hk
    obtain ⟨f, rfl, hcm, hf⟩ := hj.opened [17, 18, 19, 20, 21, 22, 23, 24, 25, 26, 27, 28, 29, 30, 31, 32, 33, 34, 35, 36, 3, 4, 5, 6] (by kernel_rfl)
    replace hcm : Below W0.heap.size W0 w10 := hcm
    have e3 : f 3 = .int .i64 A := (hf 20 _ _ rfl rfl (hu 20 (by omega))).2 _ rfl
    have e4 : f 4 = .int .i64 B := (hf 21 _ _ rfl rfl (hu 21 (by omega))).2 _ rfl
    have e5 : f 5 = .int .i64 C := (hf 22 _ _ rfl rfl (hu 22 (by omega))).2 _ rfl
    have e6 : f 6 = .int .i64 D := (hf 23 _ _ rfl rfl (hu 23 (by omega))).2 _ rfl
    have HB : Hid (Below w.heap.size w w10) := HB0.out.trans (hcm.mono HB0.out.size)
    clear hf hj hr hu hcm k0 k1 k2 k3 k4 k5
    simp only [List.foldl_cons, List.foldl_nil, List.setIfInBounds_toArray, List.set_cons_zero, List.set_cons_succ]
    rw [e3, e4, e5, e6]
    clear e3 e4 e5 e6
    generalize f 17 = g17
    generalize f 18 = g18
    generalize f 19 = g19
    generalize f 20 = g20
    generalize f 21 = g21
    generalize f 22 = g22
    generalize f 23 = g23
    generalize f 24 = g24
    generalize f 25 = g25
    generalize f 26 = g26
    generalize f 27 = g27
    generalize f 28 = g28
    generalize f 29 = g29
    generalize f 30 = g30
    generalize f 31 = g31
    generalize f 32 = g32
    generalize f 33 = g33
    generalize f 34 = g34
    generalize f 35 = g35
    generalize f 36 = g36
    clear f
    go_wp2_with fail
    refine (ROf_c _ C D (by omega) (by omega) (by omega) (by omega)).mono ?_
    rw [HLO.out]
    rintro e w11 ⟨v, rfl, hv, hb11⟩
    have hv : IsF _ v (LO) := hv
    obtain ⟨va, vb, rfl, h1, h2⟩ := hv
    obtain ⟨pL, mL, rfl, _, _⟩ := h1.shape
    obtain ⟨qL, nL, rfl, _, _⟩ := h2.shape
    have FL := Lib.hid (IsF.at_ h1 h2)
    clear h1 h2
    replace HB := Lib.hid (HB.out.trans (hb11.mono HB.out.size))
    clear hb11
    have g_L : w.heap.size ≤ w11.heap.size := by have := HB.out.size; omega
    go_wp2_with fail
    refine (ROf_c _ A B (by omega) (by omega) (by omega) (by omega)).mono ?_
    rw [HHI.out]
    rintro e w12 ⟨v, rfl, hv, hb12⟩
    have hv : IsF _ v (HI) := hv
    obtain ⟨va, vb, rfl, h1, h2⟩ := hv
    obtain ⟨pH, mH, rfl, _, _⟩ := h1.shape
    obtain ⟨qH, nH, rfl, _, _⟩ := h2.shape
    have FH := Lib.hid (IsF.at_ h1 h2)
    clear h1 h2
    obtain ⟨hb12, CL⟩ := after_new hb12
    replace CL := Lib.hid CL
    replace FL := Lib.hid (FL.out.after hb12)
    replace HB := Lib.hid (HB.out.trans (hb12.mono HB.out.size))
    clear hb12
    have d_L_H : w11.heap.size < w12.heap.size := CL.out.lt
    have g_H : w.heap.size ≤ w12.heap.size := by have := HB.out.size; omega
    obtain ⟨cL0, cL1, cL2⟩ := CL.out.cells3
    have ltL := CL.out.lt
    go_wp2_with fail
    refine (Simplest_c _ _ _ LO HI (FL.out.alloc _) (FH.out.alloc _)).mono ?_
    rw [HS.out]
    rintro e w13 ⟨v, rfl, hv, hb13⟩
    have hv : IsF _ v (fr false p q) := hv
    obtain ⟨va, vb, rfl, h1, h2⟩ := hv
    obtain ⟨pZ, mZ, rfl, _, _⟩ := h1.shape
    obtain ⟨qZ, nZ, rfl, _, _⟩ := h2.shape
    have FZ := Lib.hid (IsF.at_ h1 h2)
    clear h1 h2
    clear cL0 cL1 cL2 ltL
    obtain ⟨hb13, CH⟩ := after_new hb13
    replace CH := Lib.hid CH
    replace CL := Lib.hid (CL.out.after hb13)
    replace FL := Lib.hid (FL.out.after hb13)
    replace FH := Lib.hid (FH.out.after hb13)
    replace HB := Lib.hid (HB.out.trans (hb13.mono HB.out.size))
    clear hb13
    have d_L_Z : w11.heap.size < w13.heap.size := CL.out.lt
    have d_H_Z : w12.heap.size < w13.heap.size := CH.out.lt
    have g_Z : w.heap.size ≤ w13.heap.size := by have := HB.out.size; omega
    obtain ⟨cL0, cL1, cL2⟩ := CL.out.cells3
    have ltL := CL.out.lt
    obtain ⟨cH0, cH1, cH2⟩ := CH.out.cells3
    have ltH := CH.out.lt
    go_wp2_with fail
    refine (Valid_c _ _ (fr false p q) (FZ.out.alloc _)).mono ?_
    intro e w14 hr
    obtain ⟨rfl, hb14⟩ := hr.yes HVZ.out
    clear hr
    clear cL0 cL1 cL2 ltL cH0 cH1 cH2 ltH
    obtain ⟨hb14, CZ⟩ := after_new hb14
    replace CZ := Lib.hid CZ
    replace CL := Lib.hid (CL.out.after hb14)
    replace CH := Lib.hid (CH.out.after hb14)
    replace FL := Lib.hid (FL.out.after hb14)
    replace FH := Lib.hid (FH.out.after hb14)
    replace FZ := Lib.hid (FZ.out.after hb14)
    replace HB := Lib.hid (HB.out.trans (hb14.mono HB.out.size))
    clear hb14
    obtain ⟨_, i1, i2⟩ := FZ.out.parts
    replace i1 : Sl _ _ (limbs p) := i1
    replace i2 : Sl _ _ (limbs q) := i2
    rw [HLQ.out] at i2
    obtain ⟨bq, oq, cq, eq1, _, _, kq, lq⟩ := i2.one_cell
    simp only [fr, HLQ.out, List.length_cons, List.length_nil, Nat.zero_add] at eq1
    injection eq1 with eq1 _ eq3
    subst eq1 eq3
    rw [HLP.out] at i1
    obtain ⟨bp, op, cp, ep1, _, _, kp, lp⟩ := i1.one_cell
    simp only [fr, HLP.out, List.length_cons, List.length_nil, Nat.zero_add] at ep1
    injection ep1 with ep1 _ ep3
    subst ep1 ep3
    simp only [fr, HLQ.out, HLP.out, List.length_cons, List.length_nil, Nat.zero_add] at CZ
    clear i1 i2 FL FH FZ
    obtain ⟨cL0, cL1, cL2⟩ := CL.out.cells3
    have ltL := CL.out.lt
    obtain ⟨cH0, cH1, cH2⟩ := CH.out.cells3
    have ltH := CH.out.lt
    obtain ⟨cZ0, cZ1, cZ2⟩ := CZ.out.cells3
    have ltZ := CZ.out.lt
    go_upto_region 9 with fail
    have KQ := Lib.hid kq
    have KP := Lib.hid kp
    clear kq kp
    clear CL
    clear CH
    clear cL0 cL1 cL2 ltL cH0 cH1 cH2 ltH cZ0 cZ1 cZ2 ltZ
    refine wp_region_gj (J := GJ _ (fun _ => SV (fun _ => none) (fun κ => match κ with | 0 => some (.pointer (some ⟨w13.heap.size, 2, none⟩)) | 1 => some (.slice (some ⟨bq, oq, none⟩) 1 nZ) | 2 => some (.pointer (some ⟨bq, oq, none⟩)) | 3 => some (.int .u32 k) | 4 => some (.int .i64 k) | 5 => some (.int .i64 0) | 6 => some (.int .i64 k) | _ => none)) (fun _ _ w => Below w14.heap.size w14 w) _) (by kernel_rfl) ?_ ?_ (GJ.start (below_dr (Below.refl _ _)))
    · intro listed a w9 i hr hj
      obtain ⟨hi12, hun, _, _, _⟩ := ready_mem hr
      have h12 : i ∈ List.range 7 := List.mem_range.2 hi12
      simp only [List.range, List.range.loop, List.mem_cons, List.not_mem_nil, or_false] at h12
      obtain ⟨f, rfl, hcm, hf⟩ := hj.opened [92, 93, 94, 95, 96, 13, 14] (by kernel_rfl)
      have hcm : Below w14.heap.size w14 w9 := hcm
      rcases h12 with rfl | rfl | rfl | rfl | rfl | rfl | rfl
      · refine GJ.op hj (by kernel_rfl) hr rfl [92, 93, 94, 95, 96, 13, 14] (by kernel_rfl) (fun K hK => ?_)
        simp only [Act.put, List.foldl_cons, List.foldl_nil, List.setIfInBounds_toArray, List.set_cons_zero, List.set_cons_succ] at hK ⊢
        clear hj hf
        go_simp
        exact hK _ _ (fun k v _ _ h => h.keep (Below.refl _ _)) (fun t ht => SV.eq rfl rfl) hcm
      · have e1 : f 92 = .pointer (some ⟨w13.heap.size, 2, none⟩) := (hf 0 _ _ rfl rfl (up_dep hr (by kernel_rfl))).2 _ rfl
        obtain ⟨k0, k1, k2⟩ := (CZ.out.after hcm).cells3
        have klt := (CZ.out.after hcm).lt
        refine GJ.op hj (by kernel_rfl) hr rfl [92, 93, 94, 95, 96, 13, 14] (by kernel_rfl) (fun K hK => ?_)
        simp only [Act.put, List.foldl_cons, List.foldl_nil, List.setIfInBounds_toArray, List.set_cons_zero, List.set_cons_succ] at hK ⊢
        clear hj hf
        rw [e1] at hK ⊢
        clear e1
        go_simp
        exact hK _ _ (fun k v _ _ h => h.keep (Below.refl _ _)) (fun t ht => SV.eq rfl rfl) hcm
      · have e1 : f 93 = .slice (some ⟨bq, oq, none⟩) 1 nZ := (hf 1 _ _ rfl rfl (up_dep hr (by kernel_rfl))).2 _ rfl
        refine GJ.op hj (by kernel_rfl) hr rfl [92, 93, 94, 95, 96, 13, 14] (by kernel_rfl) (fun K hK => ?_)
        simp only [Act.put, List.foldl_cons, List.foldl_nil, List.setIfInBounds_toArray, List.set_cons_zero, List.set_cons_succ] at hK ⊢
        clear hj hf
        rw [e1] at hK ⊢
        clear e1
        go_simp
        exact hK _ _ (fun k v _ _ h => h.keep (Below.refl _ _)) (fun t ht => SV.eq rfl rfl) hcm
      · have e1 : f 94 = .pointer (some ⟨bq, oq, none⟩) := (hf 2 _ _ rfl rfl (up_dep hr (by kernel_rfl))).2 _ rfl
        have kc := keep_cell hcm KQ.out
        have klt := World.block_lt_of_cell? _ _ kc
        simp only at klt
        refine GJ.op hj (by kernel_rfl) hr rfl [92, 93, 94, 95, 96, 13, 14] (by kernel_rfl) (fun K hK => ?_)
        simp only [Act.put, List.foldl_cons, List.foldl_nil, List.setIfInBounds_toArray, List.set_cons_zero, List.set_cons_succ] at hK ⊢
        clear hj hf
        rw [e1] at hK ⊢
        clear e1
        go_simp
        exact hK _ _ (fun k v _ _ h => h.keep (Below.refl _ _)) (fun t ht => SV.eq rfl rfl) hcm
      · have e1 : f 95 = .int .u32 k := (hf 3 _ _ rfl rfl (up_dep hr (by kernel_rfl))).2 _ rfl
        refine GJ.op hj (by kernel_rfl) hr rfl [92, 93, 94, 95, 96, 13, 14] (by kernel_rfl) (fun K hK => ?_)
        simp only [Act.put, List.foldl_cons, List.foldl_nil, List.setIfInBounds_toArray, List.set_cons_zero, List.set_cons_succ] at hK ⊢
        clear hj hf
        rw [e1] at hK ⊢
        clear e1
        go_simp
        exact hK _ _ (fun k v _ _ h => h.keep (Below.refl _ _)) (fun t ht => SV.eq rfl rfl) hcm
      · refine GJ.op hj (by kernel_rfl) hr rfl [92, 93, 94, 95, 96, 13, 14] (by kernel_rfl) (fun K hK => ?_)
        simp only [Act.put, List.foldl_cons, List.foldl_nil, List.setIfInBounds_toArray, List.set_cons_zero, List.set_cons_succ] at hK ⊢
        clear hj hf
        go_simp
        exact hK _ _ (fun k v _ _ h => h.keep (Below.refl _ _)) (fun t ht => SV.eq rfl rfl) hcm
      · have e1 : f 96 = .int .i64 k := (hf 4 _ _ rfl rfl (up_dep hr (by kernel_rfl))).2 _ rfl
        refine GJ.op hj (by kernel_rfl) hr rfl [92, 93, 94, 95, 96, 13, 14] (by kernel_rfl) (fun K hK => ?_)
        simp only [Act.put, List.foldl_cons, List.foldl_nil, List.setIfInBounds_toArray, List.set_cons_zero, List.set_cons_succ] at hK ⊢
        clear hj hf
        rw [e1] at hK ⊢
        clear e1
        go_simp
        exact hK _ _ (fun k v _ _ h => h.keep (Below.refl _ _)) (fun t ht => SV.eq rfl rfl) hcm
    · intro listed a w15 hr hj
      have hu : ∀ k, k < 7 → up listed k := fun k hk => all_up (by kernel_rfl) hj.lsize hr k hk
      obtain ⟨f, rfl, hcm, hf⟩ := hj.opened [92, 93, 94, 95, 96, 13, 14] (by kernel_rfl)
      replace hcm : Below w14.heap.size w14 w15 := hcm
      have e13 : f 13 = .int .i64 0 := (hf 5 _ _ rfl rfl (hu 5 (by omega))).2 _ rfl
      have e14 : f 14 = .int .i64 k := (hf 6 _ _ rfl rfl (hu 6 (by omega))).2 _ rfl
      replace HB : Hid (Below w.heap.size w w15) := Lib.hid (HB.out.trans (hcm.mono HB.out.size))
      replace CZ := Lib.hid (CZ.out.after hcm)
      replace lq := Nat.lt_of_lt_of_le lq hcm.size
      have kq := keep_cell hcm KQ.out
      have kp := keep_cell hcm KP.out
      replace lp := Nat.lt_of_lt_of_le lp hcm.size
      clear hf hj hr hu hcm KQ KP
      simp only [List.foldl_cons, List.foldl_nil, List.setIfInBounds_toArray, List.set_cons_zero, List.set_cons_succ]
      rw [e13, e14]
      clear e13 e14
      generalize f 92 = g92
      generalize f 93 = g93
      generalize f 94 = g94
      generalize f 95 = g95
      generalize f 96 = g96
      clear f
      obtain ⟨cZ0, cZ1, cZ2⟩ := CZ.out.cells3
      have ltZ := CZ.out.lt
      go_wp2_with fail
      clear cZ0 cZ1 cZ2 ltZ
      clear CZ HLO HHI HS HVZ HLQ HLP kq lq kp lp
      clear g_L d_L_H g_H d_L_Z d_H_Z g_Z
      go_loopg [15] (q - 1) (fun g t wx => ∃ j : Nat, 1 ≤ j ∧ j ≤ q ∧ g = q - j ∧ t = .int .i64 (j : Int) ∧ Hid (Below w.heap.size w wx))
      case atStart => exact ⟨1, Nat.le_refl _, hq0, rfl, rfl, HB.out⟩
      case round =>
        obtain ⟨j, hj1, hjq, rfl, rfl, hbl⟩ := hrel
        clear HB
        by_cases hlt : j < q
        · have hjk : (j : Int) < k := by omega
          have hdj : decide ((j : Int) < k) = true := decide_eq_true hjk
          have hbad := HLOOP.out j hj1 hlt
          have b1 := mulb (x := A) (y := (j : Int)) (X := 300) (Y := 60) (by omega) (by omega) (by omega) (by omega)
          have b2 := floor_bd (n := A * (j : Int)) (d := B) (X := 300 * 60) (by omega) b1.1 b1.2
          obtain ⟨G, hG⟩ : ∃ G, A * (j : Int) / B = G := ⟨_, rfl⟩
          rw [hG] at b2 hbad
          have b3 := mulb (x := G) (y := D) (X := 20000) (Y := 60) (by omega) (by omega) (by omega) (by omega)
          have b4 := mulb (x := C) (y := (j : Int)) (X := 300) (Y := 60) (by omega) (by omega) (by omega) (by omega)
          obtain ⟨b1a, b1b⟩ := b1
          obtain ⟨b3a, b3b⟩ := b3
          obtain ⟨b4a, b4b⟩ := b4
          have hG2 := Lib.hid hG
          clear b2 hG
          go_wp2_with fail
          refine (floor_c _ (A * (j : Int)) B (by omega) (by omega) (by omega)).mono ?_
          rw [hG2.out]
          rintro e w20 ⟨rfl, hb20⟩
          replace hbl := Lib.hid (hbl.out.trans (hb20.mono hbl.out.size))
          clear hb20 hG2
          go_wp2_with fail
          go_roundg (q - (j + 1))
          case measure => omega
          case rel => exact ⟨j + 1, by omega, by omega, rfl, by go_num, hbl⟩
        · obtain rfl : j = q := by omega
          have hdj : decide (k < k) = false := decide_eq_false (by omega)
          clear hlt HLOOP
          rcases HM.out with hm1 | ⟨hm1, hm2⟩
          · go_wp2_with fail
            refine (rworks_c _).mono ?_
            rintro e w21 ⟨rfl, hb21⟩
            replace hbl := Lib.hid (hbl.out.trans (hb21.mono hbl.out.size))
            clear hb21
            go_wp2_with fail
            go_ret
            exact ⟨rfl, hbl.out⟩
          · go_wp2_with fail
            refine (rworks_c _).mono ?_
            rintro e w21 ⟨rfl, hb21⟩
            replace hbl := Lib.hid (hbl.out.trans (hb21.mono hbl.out.size))
            clear hb21
            go_wp2_with fail
            go_ret
            exact ⟨rfl, hbl.out⟩
set_option maxRecDepth 100000 in
set_option maxHeartbeats 16000000 in
theorem simplest_1n (w : World) (a b c d e f' : Int) (a0 : -32768 ≤ a) (a1 : a ≤ 32767) (b0 : -32768 ≤ b) (b1 : b ≤ 32767) (c0 : -32768 ≤ c) (c1 : c ≤ 32767) (d0 : -32768 ≤ d) (d1 : d ≤ 32767)
    (A B1 B2 B C D1 D2 D k : Int) (q p : Nat) (LO HI : F) (hA : a.tmod 300 = A) (hB1 : bits .and .i64 b 1023 = B1) (hB2 : B1.tmod 60 = B2) (hB3 : B1 % 60 = B2) (hB : 1 + B2 = B) (hC : c.tmod 300 = C) (hD1 : bits .and .i64 d 1023 = D1) (hD2 : D1.tmod 60 = D2) (hD3 : D1 % 60 = D2) (hD : 1 + D2 = D)
    (Al : -299 ≤ A) (Ah : A ≤ 299) (B1l : 0 ≤ B1) (B1h : B1 ≤ 1023) (B2l : 0 ≤ B2) (B2h : B2 ≤ 59) (Bl : 1 ≤ B) (Bh : B ≤ 60) (Cl : -299 ≤ C) (Ch : C ≤ 299) (D1l : 0 ≤ D1) (D1h : D1 ≤ 1023) (D2l : 0 ≤ D2) (D2h : D2 ≤ 59) (Dl : 1 ≤ D) (Dh : D ≤ 60)
    (pAD : -18000 ≤ A * D) (pAD' : A * D ≤ 18000) (pCB : -18000 ≤ C * B) (pCB' : C * B ≤ 18000) (hsw : decide (C * B < A * D) = true)
    (HLO : Hid (ofF C D = (LO, 0))) (HHI : Hid (ofF A B = (HI, 0))) (HS : Hid (simplestF LO HI = (fr true p q, 0))) (HVZ : Hid (ValidF (fr true p q))) (HLQ : Hid (limbs q = [q])) (hq0 : 1 ≤ q) (hq1 : q ≤ 60) (hq2 : decide (60 < q) = false) (hk : (q : Int) = k) (kl : 1 ≤ k) (kh : k ≤ 60)
    (pxk : -18000 ≤ C * k) (pxk' : C * k ≤ 18000) (puk : -18000 ≤ A * k) (puk' : A * k ≤ 18000)
    (n m : Int) (hp0 : 0 < p) (hp1 : p < 300) (HLP : Hid (limbs p = [p])) (hn : -(p : Int) = n) (nl : -300 ≤ n) (nh : n ≤ 300) (hm : n + 1 = m) (ml : -300 ≤ m) (mh : m ≤ 300) (hn0 : decide (n < 0) = true) (hnz : (n == 0) = false)
    (pny : -18000 ≤ n * D) (pny' : n * D ≤ 18000) (pnv : -18000 ≤ n * B) (pnv' : n * B ≤ 18000) (h1 : decide (n * D < C * k) = false) (h2 : decide (A * k < n * B) = false)
    (pmy : -18000 ≤ m * D) (pmy' : m * D ≤ 18000) (pmv : -18000 ≤ m * B) (pmv' : m * B ≤ 18000) (HM : Hid (decide (m * D < C * k) = true ∨ decide (m * D < C * k) = false ∧ decide (A * k < m * B) = true))
    (HLOOP : Hid (∀ j : Nat, 1 ≤ j → j < q → decide (C * (j : Int) ≤ A * (j : Int) / B * D) = false)) :
    Calls Try.prog 10 #[.agg #[.int .i16 a, .int .i16 b, .int .i16 c, .int .i16 d, .int .i16 e, .int .i16 f']] w fun e w' => e = .returned (.bool true) ∧ Below w.heap.size w w' := by
  obtain ⟨W0, hW⟩ : ∃ W0, W0 = w.alloc (.cells #[.int .i16 a, .int .i16 b, .int .i16 c, .int .i16 d, .int .i16 e, .int .i16 f'] 47) := ⟨_, rfl⟩
  have hb0 : Below w.heap.size w W0 := hW ▸ held_alloc (Below.refl _ w)
  have bx : Box W0 w.heap.size #[.int .i16 a, .int .i16 b, .int .i16 c, .int .i16 d, .int .i16 e, .int .i16 f'] 47 := hW ▸ Box.new w _ _
  have k0 : W0.cell? ⟨w.heap.size, 0, none⟩ = some (.int .i16 a) := bx.cell 0
  have k1 : W0.cell? ⟨w.heap.size, 1, none⟩ = some (.int .i16 b) := bx.cell 1
  have k2 : W0.cell? ⟨w.heap.size, 2, none⟩ = some (.int .i16 c) := bx.cell 2
  have k3 : W0.cell? ⟨w.heap.size, 3, none⟩ = some (.int .i16 d) := bx.cell 3
  have k4 : W0.cell? ⟨w.heap.size, 4, none⟩ = some (.int .i16 e) := bx.cell 4
  have k5 : W0.cell? ⟨w.heap.size, 5, none⟩ = some (.int .i16 f') := bx.cell 5
  have HB0 := Lib.hid hb0
  clear hb0 bx
  have wk : IntKind.i64.wrap k = k := wrap_in (by omega) (by omega)
  have wa : IntKind.i64.wrap a = a := wrap_in (by omega) (by omega)
  have wb : IntKind.i64.wrap b = b := wrap_in (by omega) (by omega)
  have wc : IntKind.i64.wrap c = c := wrap_in (by omega) (by omega)
  have wd : IntKind.i64.wrap d = d := wrap_in (by omega) (by omega)
  have wB : IntKind.i64.wrap B = B := wrap_in (by omega) (by omega)
  have wD : IntKind.i64.wrap D = D := wrap_in (by omega) (by omega)
  go_enter Try.func10, Try.ntmps10
  go_upto_region 1 with fail
  rw [← hW]
  clear hW
  refine wp_region_gj (J := GJ _ (fun _ => SV (fun _ => none) (fun κ => match κ with | 0 => some (.pointer (some ⟨w.heap.size, 0, none⟩)) | 1 => some (.int .i16 a) | 2 => some (.int .i64 a) | 3 => some (.int .i64 A) | 4 => some (.pointer (some ⟨w.heap.size, 1, none⟩)) | 5 => some (.int .i16 b) | 6 => some (.int .i64 b) | 7 => some (.int .i64 B1) | 8 => some (.int .i64 B2) | 9 => some (.int .i64 B) | 10 => some (.pointer (some ⟨w.heap.size, 2, none⟩)) | 11 => some (.int .i16 c) | 12 => some (.int .i64 c) | 13 => some (.int .i64 C) | 14 => some (.pointer (some ⟨w.heap.size, 3, none⟩)) | 15 => some (.int .i16 d) | 16 => some (.int .i64 d) | 17 => some (.int .i64 D1) | 18 => some (.int .i64 D2) | 19 => some (.int .i64 D) | 20 => some (.int .i64 A) | 21 => some (.int .i64 B) | 22 => some (.int .i64 C) | 23 => some (.int .i64 D) | _ => none)) (fun _ _ w => Below W0.heap.size W0 w) _) (by kernel_rfl) ?_ ?_ (GJ.start (below_dr (Below.refl _ _)))
  · intro listed a w9 i hr hj
    obtain ⟨hi12, hun, _, _, _⟩ := ready_mem hr
    have h12 : i ∈ List.range 24 := List.mem_range.2 hi12
    simp only [List.range, List.range.loop, List.mem_cons, List.not_mem_nil, or_false] at h12
    obtain ⟨f, rfl, hcm, hf⟩ := hj.opened [17, 18, 19, 20, 21, 22, 23, 24, 25, 26, 27, 28, 29, 30, 31, 32, 33, 34, 35, 36, 3, 4, 5, 6] (by kernel_rfl)
    have hcm : Below W0.heap.size W0 w9 := hcm
    rcases h12 with rfl | rfl | rfl | rfl | rfl | rfl | rfl | rfl | rfl | rfl | rfl | rfl | rfl | rfl | rfl | rfl | rfl | rfl | rfl | rfl | rfl | rfl | rfl | rfl
    · refine GJ.op hj (by kernel_rfl) hr rfl [17, 18, 19, 20, 21, 22, 23, 24, 25, 26, 27, 28, 29, 30, 31, 32, 33, 34, 35, 36, 3, 4, 5, 6] (by kernel_rfl) (fun K hK => ?_)
      simp only [Act.put, List.foldl_cons, List.foldl_nil, List.setIfInBounds_toArray, List.set_cons_zero, List.set_cons_succ] at hK ⊢
      clear hj hf
      go_simp
      exact hK _ _ (fun k v _ _ h => h.keep (Below.refl _ _)) (fun t ht => SV.eq rfl rfl) hcm
    · have e1 : f 17 = .pointer (some ⟨w.heap.size, 0, none⟩) := (hf 0 _ _ rfl rfl (up_dep hr (by kernel_rfl))).2 _ rfl
      have kc := keep_cell hcm k0
      have klt := World.block_lt_of_cell? _ _ kc
      simp only at klt
      refine GJ.op hj (by kernel_rfl) hr rfl [17, 18, 19, 20, 21, 22, 23, 24, 25, 26, 27, 28, 29, 30, 31, 32, 33, 34, 35, 36, 3, 4, 5, 6] (by kernel_rfl) (fun K hK => ?_)
      simp only [Act.put, List.foldl_cons, List.foldl_nil, List.setIfInBounds_toArray, List.set_cons_zero, List.set_cons_succ] at hK ⊢
      clear hj hf
      rw [e1] at hK ⊢
      clear e1
      go_simp
      exact hK _ _ (fun k v _ _ h => h.keep (Below.refl _ _)) (fun t ht => SV.eq rfl rfl) hcm
    · have e1 : f 18 = .int .i16 a := (hf 1 _ _ rfl rfl (up_dep hr (by kernel_rfl))).2 _ rfl
      refine GJ.op hj (by kernel_rfl) hr rfl [17, 18, 19, 20, 21, 22, 23, 24, 25, 26, 27, 28, 29, 30, 31, 32, 33, 34, 35, 36, 3, 4, 5, 6] (by kernel_rfl) (fun K hK => ?_)
      simp only [Act.put, List.foldl_cons, List.foldl_nil, List.setIfInBounds_toArray, List.set_cons_zero, List.set_cons_succ] at hK ⊢
      clear hj hf
      rw [e1] at hK ⊢
      clear e1
      go_simp
      exact hK _ _ (fun k v _ _ h => h.keep (Below.refl _ _)) (fun t ht => SV.eq rfl rfl) hcm
    · have e1 : f 19 = .int .i64 a := (hf 2 _ _ rfl rfl (up_dep hr (by kernel_rfl))).2 _ rfl
      refine GJ.op hj (by kernel_rfl) hr rfl [17, 18, 19, 20, 21, 22, 23, 24, 25, 26, 27, 28, 29, 30, 31, 32, 33, 34, 35, 36, 3, 4, 5, 6] (by kernel_rfl) (fun K hK => ?_)
      simp only [Act.put, List.foldl_cons, List.foldl_nil, List.setIfInBounds_toArray, List.set_cons_zero, List.set_cons_succ] at hK ⊢
      clear hj hf
      rw [e1] at hK ⊢
      clear e1
      go_simp
      exact hK _ _ (fun k v _ _ h => h.keep (Below.refl _ _)) (fun t ht => SV.eq rfl rfl) hcm
    · refine GJ.op hj (by kernel_rfl) hr rfl [17, 18, 19, 20, 21, 22, 23, 24, 25, 26, 27, 28, 29, 30, 31, 32, 33, 34, 35, 36, 3, 4, 5, 6] (by kernel_rfl) (fun K hK => ?_)
      simp only [Act.put, List.foldl_cons, List.foldl_nil, List.setIfInBounds_toArray, List.set_cons_zero, List.set_cons_succ] at hK ⊢
      clear hj hf
      go_simp
      exact hK _ _ (fun k v _ _ h => h.keep (Below.refl _ _)) (fun t ht => SV.eq rfl rfl) hcm
    · have e1 : f 21 = .pointer (some ⟨w.heap.size, 1, none⟩) := (hf 4 _ _ rfl rfl (up_dep hr (by kernel_rfl))).2 _ rfl
      have kc := keep_cell hcm k1
      have klt := World.block_lt_of_cell? _ _ kc
      simp only at klt
      refine GJ.op hj (by kernel_rfl) hr rfl [17, 18, 19, 20, 21, 22, 23, 24, 25, 26, 27, 28, 29, 30, 31, 32, 33, 34, 35, 36, 3, 4, 5, 6] (by kernel_rfl) (fun K hK => ?_)
      simp only [Act.put, List.foldl_cons, List.foldl_nil, List.setIfInBounds_toArray, List.set_cons_zero, List.set_cons_succ] at hK ⊢
      clear hj hf
      rw [e1] at hK ⊢
      clear e1
      go_simp
      exact hK _ _ (fun k v _ _ h => h.keep (Below.refl _ _)) (fun t ht => SV.eq rfl rfl) hcm
    · have e1 : f 22 = .int .i16 b := (hf 5 _ _ rfl rfl (up_dep hr (by kernel_rfl))).2 _ rfl
      refine GJ.op hj (by kernel_rfl) hr rfl [17, 18, 19, 20, 21, 22, 23, 24, 25, 26, 27, 28, 29, 30, 31, 32, 33, 34, 35, 36, 3, 4, 5, 6] (by kernel_rfl) (fun K hK => ?_)
      simp only [Act.put, List.foldl_cons, List.foldl_nil, List.setIfInBounds_toArray, List.set_cons_zero, List.set_cons_succ] at hK ⊢
      clear hj hf
      rw [e1] at hK ⊢
      clear e1
      go_simp
      exact hK _ _ (fun k v _ _ h => h.keep (Below.refl _ _)) (fun t ht => SV.eq rfl rfl) hcm
    · have e1 : f 23 = .int .i64 b := (hf 6 _ _ rfl rfl (up_dep hr (by kernel_rfl))).2 _ rfl
      refine GJ.op hj (by kernel_rfl) hr rfl [17, 18, 19, 20, 21, 22, 23, 24, 25, 26, 27, 28, 29, 30, 31, 32, 33, 34, 35, 36, 3, 4, 5, 6] (by kernel_rfl) (fun K hK => ?_)
      simp only [Act.put, List.foldl_cons, List.foldl_nil, List.setIfInBounds_toArray, List.set_cons_zero, List.set_cons_succ] at hK ⊢
      clear hj hf
      rw [e1] at hK ⊢
      clear e1
      go_simp
      exact hK _ _ (fun k v _ _ h => h.keep (Below.refl _ _)) (fun t ht => SV.eq rfl rfl) hcm
    · have e1 : f 24 = .int .i64 B1 := (hf 7 _ _ rfl rfl (up_dep hr (by kernel_rfl))).2 _ rfl
      refine GJ.op hj (by kernel_rfl) hr rfl [17, 18, 19, 20, 21, 22, 23, 24, 25, 26, 27, 28, 29, 30, 31, 32, 33, 34, 35, 36, 3, 4, 5, 6] (by kernel_rfl) (fun K hK => ?_)
      simp only [Act.put, List.foldl_cons, List.foldl_nil, List.setIfInBounds_toArray, List.set_cons_zero, List.set_cons_succ] at hK ⊢
      clear hj hf
      rw [e1] at hK ⊢
      clear e1
      go_simp
      exact hK _ _ (fun k v _ _ h => h.keep (Below.refl _ _)) (fun t ht => SV.eq rfl rfl) hcm
    · have e1 : f 25 = .int .i64 B2 := (hf 8 _ _ rfl rfl (up_dep hr (by kernel_rfl))).2 _ rfl
      refine GJ.op hj (by kernel_rfl) hr rfl [17, 18, 19, 20, 21, 22, 23, 24, 25, 26, 27, 28, 29, 30, 31, 32, 33, 34, 35, 36, 3, 4, 5, 6] (by kernel_rfl) (fun K hK => ?_)
      simp only [Act.put, List.foldl_cons, List.foldl_nil, List.setIfInBounds_toArray, List.set_cons_zero, List.set_cons_succ] at hK ⊢
      clear hj hf
      rw [e1] at hK ⊢
      clear e1
      go_simp
      exact hK _ _ (fun k v _ _ h => h.keep (Below.refl _ _)) (fun t ht => SV.eq rfl rfl) hcm
    · refine GJ.op hj (by kernel_rfl) hr rfl [17, 18, 19, 20, 21, 22, 23, 24, 25, 26, 27, 28, 29, 30, 31, 32, 33, 34, 35, 36, 3, 4, 5, 6] (by kernel_rfl) (fun K hK => ?_)
      simp only [Act.put, List.foldl_cons, List.foldl_nil, List.setIfInBounds_toArray, List.set_cons_zero, List.set_cons_succ] at hK ⊢
      clear hj hf
      go_simp
      exact hK _ _ (fun k v _ _ h => h.keep (Below.refl _ _)) (fun t ht => SV.eq rfl rfl) hcm
    · have e1 : f 27 = .pointer (some ⟨w.heap.size, 2, none⟩) := (hf 10 _ _ rfl rfl (up_dep hr (by kernel_rfl))).2 _ rfl
      have kc := keep_cell hcm k2
      have klt := World.block_lt_of_cell? _ _ kc
      simp only at klt
      refine GJ.op hj (by kernel_rfl) hr rfl [17, 18, 19, 20, 21, 22, 23, 24, 25, 26, 27, 28, 29, 30, 31, 32, 33, 34, 35, 36, 3, 4, 5, 6] (by kernel_rfl) (fun K hK => ?_)
      simp only [Act.put, List.foldl_cons, List.foldl_nil, List.setIfInBounds_toArray, List.set_cons_zero, List.set_cons_succ] at hK ⊢
      clear hj hf
      rw [e1] at hK ⊢
      clear e1
      go_simp
      exact hK _ _ (fun k v _ _ h => h.keep (Below.refl _ _)) (fun t ht => SV.eq rfl rfl) hcm
    · have e1 : f 28 = .int .i16 c := (hf 11 _ _ rfl rfl (up_dep hr (by kernel_rfl))).2 _ rfl
      refine GJ.op hj (by kernel_rfl) hr rfl [17, 18, 19, 20, 21, 22, 23, 24, 25, 26, 27, 28, 29, 30, 31, 32, 33, 34, 35, 36, 3, 4, 5, 6] (by kernel_rfl) (fun K hK => ?_)
      simp only [Act.put, List.foldl_cons, List.foldl_nil, List.setIfInBounds_toArray, List.set_cons_zero, List.set_cons_succ] at hK ⊢
      clear hj hf
      rw [e1] at hK ⊢
      clear e1
      go_simp
      exact hK _ _ (fun k v _ _ h => h.keep (Below.refl _ _)) (fun t ht => SV.eq rfl rfl) hcm
    · have e1 : f 29 = .int .i64 c := (hf 12 _ _ rfl rfl (up_dep hr (by kernel_rfl))).2 _ rfl
      refine GJ.op hj (by kernel_rfl) hr rfl [17, 18, 19, 20, 21, 22, 23, 24, 25, 26, 27, 28, 29, 30, 31, 32, 33, 34, 35, 36, 3, 4, 5, 6] (by kernel_rfl) (fun K hK => ?_)
      simp only [Act.put, List.foldl_cons, List.foldl_nil, List.setIfInBounds_toArray, List.set_cons_zero, List.set_cons_succ] at hK ⊢
      clear hj hf
      rw [e1] at hK ⊢
      clear e1
      go_simp
      exact hK _ _ (fun k v _ _ h => h.keep (Below.refl _ _)) (fun t ht => SV.eq rfl rfl) hcm
    · refine GJ.op hj (by kernel_rfl) hr rfl [17, 18, 19, 20, 21, 22, 23, 24, 25, 26, 27, 28, 29, 30, 31, 32, 33, 34, 35, 36, 3, 4, 5, 6] (by kernel_rfl) (fun K hK => ?_)
      simp only [Act.put, List.foldl_cons, List.foldl_nil, List.setIfInBounds_toArray, List.set_cons_zero, List.set_cons_succ] at hK ⊢
      clear hj hf
      go_simp
      exact hK _ _ (fun k v _ _ h => h.keep (Below.refl _ _)) (fun t ht => SV.eq rfl rfl) hcm
    · have e1 : f 31 = .pointer (some ⟨w.heap.size, 3, none⟩) := (hf 14 _ _ rfl rfl (up_dep hr (by kernel_rfl))).2 _ rfl
      have kc := keep_cell hcm k3
      have klt := World.block_lt_of_cell? _ _ kc
      simp only at klt
      refine GJ.op hj (by kernel_rfl) hr rfl [17, 18, 19, 20, 21, 22, 23, 24, 25, 26, 27, 28, 29, 30, 31, 32, 33, 34, 35, 36, 3, 4, 5, 6] (by kernel_rfl) (fun K hK => ?_)
      simp only [Act.put, List.foldl_cons, List.foldl_nil, List.setIfInBounds_toArray, List.set_cons_zero, List.set_cons_succ] at hK ⊢
      clear hj hf
      rw [e1] at hK ⊢
      clear e1
      go_simp
      exact hK _ _ (fun k v _ _ h => h.keep (Below.refl _ _)) (fun t ht => SV.eq rfl rfl) hcm
    · have e1 : f 32 = .int .i16 d := (hf 15 _ _ rfl rfl (up_dep hr (by kernel_rfl))).2 _ rfl
      refine GJ.op hj (by kernel_rfl) hr rfl [17, 18, 19, 20, 21, 22, 23, 24, 25, 26, 27, 28, 29, 30, 31, 32, 33, 34, 35, 36, 3, 4, 5, 6] (by kernel_rfl) (fun K hK => ?_)
      simp only [Act.put, List.foldl_cons, List.foldl_nil, List.setIfInBounds_toArray, List.set_cons_zero, List.set_cons_succ] at hK ⊢
      clear hj hf
      rw [e1] at hK ⊢
      clear e1
      go_simp
      exact hK _ _ (fun k v _ _ h => h.keep (Below.refl _ _)) (fun t ht => SV.eq rfl rfl) hcm
    · have e1 : f 33 = .int .i64 d := (hf 16 _ _ rfl rfl (up_dep hr (by kernel_rfl))).2 _ rfl
      refine GJ.op hj (by kernel_rfl) hr rfl [17, 18, 19, 20, 21, 22, 23, 24, 25, 26, 27, 28, 29, 30, 31, 32, 33, 34, 35, 36, 3, 4, 5, 6] (by kernel_rfl) (fun K hK => ?_)
      simp only [Act.put, List.foldl_cons, List.foldl_nil, List.setIfInBounds_toArray, List.set_cons_zero, List.set_cons_succ] at hK ⊢
      clear hj hf
      rw [e1] at hK ⊢
      clear e1
      go_simp
      exact hK _ _ (fun k v _ _ h => h.keep (Below.refl _ _)) (fun t ht => SV.eq rfl rfl) hcm
    · have e1 : f 34 = .int .i64 D1 := (hf 17 _ _ rfl rfl (up_dep hr (by kernel_rfl))).2 _ rfl
      refine GJ.op hj (by kernel_rfl) hr rfl [17, 18, 19, 20, 21, 22, 23, 24, 25, 26, 27, 28, 29, 30, 31, 32, 33, 34, 35, 36, 3, 4, 5, 6] (by kernel_rfl) (fun K hK => ?_)
      simp only [Act.put, List.foldl_cons, List.foldl_nil, List.setIfInBounds_toArray, List.set_cons_zero, List.set_cons_succ] at hK ⊢
      clear hj hf
      rw [e1] at hK ⊢
      clear e1
      go_simp
      exact hK _ _ (fun k v _ _ h => h.keep (Below.refl _ _)) (fun t ht => SV.eq rfl rfl) hcm
    · have e1 : f 35 = .int .i64 D2 := (hf 18 _ _ rfl rfl (up_dep hr (by kernel_rfl))).2 _ rfl
      refine GJ.op hj (by kernel_rfl) hr rfl [17, 18, 19, 20, 21, 22, 23, 24, 25, 26, 27, 28, 29, 30, 31, 32, 33, 34, 35, 36, 3, 4, 5, 6] (by kernel_rfl) (fun K hK => ?_)
      simp only [Act.put, List.foldl_cons, List.foldl_nil, List.setIfInBounds_toArray, List.set_cons_zero, List.set_cons_succ] at hK ⊢
      clear hj hf
      rw [e1] at hK ⊢
      clear e1
      go_simp
      exact hK _ _ (fun k v _ _ h => h.keep (Below.refl _ _)) (fun t ht => SV.eq rfl rfl) hcm
    · have e1 : f 20 = .int .i64 A := (hf 3 _ _ rfl rfl (up_dep hr (by kernel_rfl))).2 _ rfl
      refine GJ.op hj (by kernel_rfl) hr rfl [17, 18, 19, 20, 21, 22, 23, 24, 25, 26, 27, 28, 29, 30, 31, 32, 33, 34, 35, 36, 3, 4, 5, 6] (by kernel_rfl) (fun K hK => ?_)
      simp only [Act.put, List.foldl_cons, List.foldl_nil, List.setIfInBounds_toArray, List.set_cons_zero, List.set_cons_succ] at hK ⊢
      clear hj hf
      rw [e1] at hK ⊢
      clear e1
      go_simp
      exact hK _ _ (fun k v _ _ h => h.keep (Below.refl _ _)) (fun t ht => SV.eq rfl rfl) hcm
    · have e1 : f 26 = .int .i64 B := (hf 9 _ _ rfl rfl (up_dep hr (by kernel_rfl))).2 _ rfl
      refine GJ.op hj (by kernel_rfl) hr rfl [17, 18, 19, 20, 21, 22, 23, 24, 25, 26, 27, 28, 29, 30, 31, 32, 33, 34, 35, 36, 3, 4, 5, 6] (by kernel_rfl) (fun K hK => ?_)
      simp only [Act.put, List.foldl_cons, List.foldl_nil, List.setIfInBounds_toArray, List.set_cons_zero, List.set_cons_succ] at hK ⊢
      clear hj hf
      rw [e1] at hK ⊢
      clear e1
      go_simp
      exact hK _ _ (fun k v _ _ h => h.keep (Below.refl _ _)) (fun t ht => SV.eq rfl rfl) hcm
    · have e1 : f 30 = .int .i64 C := (hf 13 _ _ rfl rfl (up_dep hr (by kernel_rfl))).2 _ rfl
      refine GJ.op hj (by kernel_rfl) hr rfl [17, 18, 19, 20, 21, 22, 23, 24, 25, 26, 27, 28, 29, 30, 31, 32, 33, 34, 35, 36, 3, 4, 5, 6] (by kernel_rfl) (fun K hK => ?_)
      simp only [Act.put, List.foldl_cons, List.foldl_nil, List.setIfInBounds_toArray, List.set_cons_zero, List.set_cons_succ] at hK ⊢
      clear hj hf
      rw [e1] at hK ⊢
      clear e1
      go_simp
      exact hK _ _ (fun k v _ _ h => h.keep (Below.refl _ _)) (fun t ht => SV.eq rfl rfl) hcm
    · have e1 : f 36 = .int .i64 D := (hf 19 _ _ rfl rfl (up_dep hr (by kernel_rfl))).2 _ rfl
      refine GJ.op hj (by kernel_rfl) hr rfl [17, 18, 19, 20, 21, 22, 23, 24, 25, 26, 27, 28, 29, 30, 31, 32, 33, 34, 35, 36, 3, 4, 5, 6] (by kernel_rfl) (fun K hK => ?_)
      simp only [Act.put, List.foldl_cons, List.foldl_nil, List.setIfInBounds_toArray, List.set_cons_zero, List.set_cons_succ] at hK ⊢
      clear hj hf
      rw [e1] at hK ⊢
      clear e1
      go_simp
      exact hK _ _ (fun k v _ _ h => h.keep (Below.refl _ _)) (fun t ht => SV.eq rfl rfl) hcm
  · intro listed a w10 hr hj
    have hu : ∀ k, k < 24 → up listed k := fun k hk => all_up (by kernel_rfl) hj.lsize hr k hk
    obtain ⟨f, rfl, hcm, hf⟩ := hj.opened [17, 18, 19, 20, 21, 22, 23, 24, 25, 26, 27, 28, 29, 30, 31, 32, 33, 34, 35, 36, 3, 4, 5, 6] (by kernel_rfl)
    replace hcm : Below W0.heap.size W0 w10 := hcm
    have e3 : f 3 = .int .i64 A := (hf 20 _ _ rfl rfl (hu 20 (by omega))).2 _ rfl
    have e4 : f 4 = .int .i64 B := (hf 21 _ _ rfl rfl (hu 21 (by omega))).2 _ rfl
    have e5 : f 5 = .int .i64 C := (hf 22 _ _ rfl rfl (hu 22 (by omega))).2 _ rfl
    have e6 : f 6 = .int .i64 D := (hf 23 _ _ rfl rfl (hu 23 (by omega))).2 _ rfl
    have HB : Hid (Below w.heap.size w w10) := HB0.out.trans (hcm.mono HB0.out.size)
    clear hf hj hr hu hcm k0 k1 k2 k3 k4 k5
    simp only [List.foldl_cons, List.foldl_nil, List.setIfInBounds_toArray, List.set_cons_zero, List.set_cons_succ]
    rw [e3, e4, e5, e6]
    clear e3 e4 e5 e6
    generalize f 17 = g17
    generalize f 18 = g18
    generalize f 19 = g19
    generalize f 20 = g20
    generalize f 21 = g21
    generalize f 22 = g22
    generalize f 23 = g23
    generalize f 24 = g24
    generalize f 25 = g25
    generalize f 26 = g26
    generalize f 27 = g27
    generalize f 28 = g28
    generalize f 29 = g29
    generalize f 30 = g30
    generalize f 31 = g31
    generalize f 32 = g32
    generalize f 33 = g33
    generalize f 34 = g34
    generalize f 35 = g35
    generalize f 36 = g36
    clear f
    go_wp2_with fail
    refine (ROf_c _ C D (by omega) (by omega) (by omega) (by omega)).mono ?_
    rw [HLO.out]
    rintro e w11 ⟨v, rfl, hv, hb11⟩
    have hv : IsF _ v (LO) := hv
    obtain ⟨va, vb, rfl, h1, h2⟩ := hv
    obtain ⟨pL, mL, rfl, _, _⟩ := h1.shape
    obtain ⟨qL, nL, rfl, _, _⟩ := h2.shape
    have FL := Lib.hid (IsF.at_ h1 h2)
    clear h1 h2
    replace HB := Lib.hid (HB.out.trans (hb11.mono HB.out.size))
    clear hb11
    have g_L : w.heap.size ≤ w11.heap.size := by have := HB.out.size; omega
    go_wp2_with fail
    refine (ROf_c _ A B (by omega) (by omega) (by omega) (by omega)).mono ?_
    rw [HHI.out]
    rintro e w12 ⟨v, rfl, hv, hb12⟩
    have hv : IsF _ v (HI) := hv
    obtain ⟨va, vb, rfl, h1, h2⟩ := hv
    obtain ⟨pH, mH, rfl, _, _⟩ := h1.shape
    obtain ⟨qH, nH, rfl, _, _⟩ := h2.shape
    have FH := Lib.hid (IsF.at_ h1 h2)
    clear h1 h2
    obtain ⟨hb12, CL⟩ := after_new hb12
    replace CL := Lib.hid CL
    replace FL := Lib.hid (FL.out.after hb12)
    replace HB := Lib.hid (HB.out.trans (hb12.mono HB.out.size))
    clear hb12
    have d_L_H : w11.heap.size < w12.heap.size := CL.out.lt
    have g_H : w.heap.size ≤ w12.heap.size := by have := HB.out.size; omega
    obtain ⟨cL0, cL1, cL2⟩ := CL.out.cells3
    have ltL := CL.out.lt
    go_wp2_with fail
    refine (Simplest_c _ _ _ LO HI (FL.out.alloc _) (FH.out.alloc _)).mono ?_
    rw [HS.out]
    rintro e w13 ⟨v, rfl, hv, hb13⟩
    have hv : IsF _ v (fr true p q) := hv
    obtain ⟨va, vb, rfl, h1, h2⟩ := hv
    obtain ⟨pZ, mZ, rfl, _, _⟩ := h1.shape
    obtain ⟨qZ, nZ, rfl, _, _⟩ := h2.shape
    have FZ := Lib.hid (IsF.at_ h1 h2)
    clear h1 h2
    clear cL0 cL1 cL2 ltL
    obtain ⟨hb13, CH⟩ := after_new hb13
    replace CH := Lib.hid CH
    replace CL := Lib.hid (CL.out.after hb13)
    replace FL := Lib.hid (FL.out.after hb13)
    replace FH := Lib.hid (FH.out.after hb13)
    replace HB := Lib.hid (HB.out.trans (hb13.mono HB.out.size))
    clear hb13
    have d_L_Z : w11.heap.size < w13.heap.size := CL.out.lt
    have d_H_Z : w12.heap.size < w13.heap.size := CH.out.lt
    have g_Z : w.heap.size ≤ w13.heap.size := by have := HB.out.size; omega
    obtain ⟨cL0, cL1, cL2⟩ := CL.out.cells3
    have ltL := CL.out.lt
    obtain ⟨cH0, cH1, cH2⟩ := CH.out.cells3
    have ltH := CH.out.lt
    go_wp2_with fail
    refine (Valid_c _ _ (fr true p q) (FZ.out.alloc _)).mono ?_
    intro e w14 hr
    obtain ⟨rfl, hb14⟩ := hr.yes HVZ.out
    clear hr
    clear cL0 cL1 cL2 ltL cH0 cH1 cH2 ltH
    obtain ⟨hb14, CZ⟩ := after_new hb14
    replace CZ := Lib.hid CZ
    replace CL := Lib.hid (CL.out.after hb14)
    replace CH := Lib.hid (CH.out.after hb14)
    replace FL := Lib.hid (FL.out.after hb14)
    replace FH := Lib.hid (FH.out.after hb14)
    replace FZ := Lib.hid (FZ.out.after hb14)
    replace HB := Lib.hid (HB.out.trans (hb14.mono HB.out.size))
    clear hb14
    obtain ⟨_, i1, i2⟩ := FZ.out.parts
    replace i1 : Sl _ _ (limbs p) := i1
    replace i2 : Sl _ _ (limbs q) := i2
    rw [HLQ.out] at i2
    obtain ⟨bq, oq, cq, eq1, _, _, kq, lq⟩ := i2.one_cell
    simp only [fr, HLQ.out, List.length_cons, List.length_nil, Nat.zero_add] at eq1
    injection eq1 with eq1 _ eq3
    subst eq1 eq3
    rw [HLP.out] at i1
    obtain ⟨bp, op, cp, ep1, _, _, kp, lp⟩ := i1.one_cell
    simp only [fr, HLP.out, List.length_cons, List.length_nil, Nat.zero_add] at ep1
    injection ep1 with ep1 _ ep3
    subst ep1 ep3
    simp only [fr, HLQ.out, HLP.out, List.length_cons, List.length_nil, Nat.zero_add] at CZ
    clear i1 i2 FL FH FZ
    obtain ⟨cL0, cL1, cL2⟩ := CL.out.cells3
    have ltL := CL.out.lt
    obtain ⟨cH0, cH1, cH2⟩ := CH.out.cells3
    have ltH := CH.out.lt
    obtain ⟨cZ0, cZ1, cZ2⟩ := CZ.out.cells3
    have ltZ := CZ.out.lt
    go_upto_region 9 with fail
    have KQ := Lib.hid kq
    have KP := Lib.hid kp
    clear kq kp
    clear CL
    clear CH
    clear cL0 cL1 cL2 ltL cH0 cH1 cH2 ltH cZ0 cZ1 cZ2 ltZ
    refine wp_region_gj (J := GJ _ (fun _ => SV (fun _ => none) (fun κ => match κ with | 0 => some (.pointer (some ⟨w13.heap.size, 2, none⟩)) | 1 => some (.slice (some ⟨bq, oq, none⟩) 1 nZ) | 2 => some (.pointer (some ⟨bq, oq, none⟩)) | 3 => some (.int .u32 k) | 4 => some (.int .i64 k) | 5 => some (.int .i64 0) | 6 => some (.int .i64 k) | _ => none)) (fun _ _ w => Below w14.heap.size w14 w) _) (by kernel_rfl) ?_ ?_ (GJ.start (below_dr (Below.refl _ _)))
    · intro listed a w9 i hr hj
      obtain ⟨hi12, hun, _, _, _⟩ := ready_mem hr
      have h12 : i ∈ List.range 7 := List.mem_range.2 hi12
      simp only [List.range, List.range.loop, List.mem_cons, List.not_mem_nil, or_false] at h12
      obtain ⟨f, rfl, hcm, hf⟩ := hj.opened [92, 93, 94, 95, 96, 13, 14] (by kernel_rfl)
      have hcm : Below w14.heap.size w14 w9 := hcm
      rcases h12 with rfl | rfl | rfl | rfl | rfl | rfl | rfl
      · refine GJ.op hj (by kernel_rfl) hr rfl [92, 93, 94, 95, 96, 13, 14] (by kernel_rfl) (fun K hK => ?_)
        simp only [Act.put, List.foldl_cons, List.foldl_nil, List.setIfInBounds_toArray, List.set_cons_zero, List.set_cons_succ] at hK ⊢
        clear hj hf
        go_simp
        exact hK _ _ (fun k v _ _ h => h.keep (Below.refl _ _)) (fun t ht => SV.eq rfl rfl) hcm
      · have e1 : f 92 = .pointer (some ⟨w13.heap.size, 2, none⟩) := (hf 0 _ _ rfl rfl (up_dep hr (by kernel_rfl))).2 _ rfl
        obtain ⟨k0, k1, k2⟩ := (CZ.out.after hcm).cells3
        have klt := (CZ.out.after hcm).lt
        refine GJ.op hj (by kernel_rfl) hr rfl [92, 93, 94, 95, 96, 13, 14] (by kernel_rfl) (fun K hK => ?_)
        simp only [Act.put, List.foldl_cons, List.foldl_nil, List.setIfInBounds_toArray, List.set_cons_zero, List.set_cons_succ] at hK ⊢
        clear hj hf
        rw [e1] at hK ⊢
        clear e1
        go_simp
        exact hK _ _ (fun k v _ _ h => h.keep (Below.refl _ _)) (fun t ht => SV.eq rfl rfl) hcm
      · have e1 : f 93 = .slice (some ⟨bq, oq, none⟩) 1 nZ := (hf 1 _ _ rfl rfl (up_dep hr (by kernel_rfl))).2 _ rfl
        refine GJ.op hj (by kernel_rfl) hr rfl [92, 93, 94, 95, 96, 13, 14] (by kernel_rfl) (fun K hK => ?_)
        simp only [Act.put, List.foldl_cons, List.foldl_nil, List.setIfInBounds_toArray, List.set_cons_zero, List.set_cons_succ] at hK ⊢
        clear hj hf
        rw [e1] at hK ⊢
        clear e1
        go_simp
        exact hK _ _ (fun k v _ _ h => h.keep (Below.refl _ _)) (fun t ht => SV.eq rfl rfl) hcm
      · have e1 : f 94 = .pointer (some ⟨bq, oq, none⟩) := (hf 2 _ _ rfl rfl (up_dep hr (by kernel_rfl))).2 _ rfl
        have kc := keep_cell hcm KQ.out
        have klt := World.block_lt_of_cell? _ _ kc
        simp only at klt
        refine GJ.op hj (by kernel_rfl) hr rfl [92, 93, 94, 95, 96, 13, 14] (by kernel_rfl) (fun K hK => ?_)
        simp only [Act.put, List.foldl_cons, List.foldl_nil, List.setIfInBounds_toArray, List.set_cons_zero, List.set_cons_succ] at hK ⊢
        clear hj hf
        rw [e1] at hK ⊢
        clear e1
        go_simp
        exact hK _ _ (fun k v _ _ h => h.keep (Below.refl _ _)) (fun t ht => SV.eq rfl rfl) hcm
      · have e1 : f 95 = .int .u32 k := (hf 3 _ _ rfl rfl (up_dep hr (by kernel_rfl))).2 _ rfl
        refine GJ.op hj (by kernel_rfl) hr rfl [92, 93, 94, 95, 96, 13, 14] (by kernel_rfl) (fun K hK => ?_)
        simp only [Act.put, List.foldl_cons, List.foldl_nil, List.setIfInBounds_toArray, List.set_cons_zero, List.set_cons_succ] at hK ⊢
        clear hj hf
        rw [e1] at hK ⊢
        clear e1
        go_simp
        exact hK _ _ (fun k v _ _ h => h.keep (Below.refl _ _)) (fun t ht => SV.eq rfl rfl) hcm
      · refine GJ.op hj (by kernel_rfl) hr rfl [92, 93, 94, 95, 96, 13, 14] (by kernel_rfl) (fun K hK => ?_)
        simp only [Act.put, List.foldl_cons, List.foldl_nil, List.setIfInBounds_toArray, List.set_cons_zero, List.set_cons_succ] at hK ⊢
        clear hj hf
        go_simp
        exact hK _ _ (fun k v _ _ h => h.keep (Below.refl _ _)) (fun t ht => SV.eq rfl rfl) hcm
      · have e1 : f 96 = .int .i64 k := (hf 4 _ _ rfl rfl (up_dep hr (by kernel_rfl))).2 _ rfl
        refine GJ.op hj (by kernel_rfl) hr rfl [92, 93, 94, 95, 96, 13, 14] (by kernel_rfl) (fun K hK => ?_)
        simp only [Act.put, List.foldl_cons, List.foldl_nil, List.setIfInBounds_toArray, List.set_cons_zero, List.set_cons_succ] at hK ⊢
        clear hj hf
        rw [e1] at hK ⊢
        clear e1
        go_simp
        exact hK _ _ (fun k v _ _ h => h.keep (Below.refl _ _)) (fun t ht => SV.eq rfl rfl) hcm
    · intro listed a w15 hr hj
      have hu : ∀ k, k < 7 → up listed k := fun k hk => all_up (by kernel_rfl) hj.lsize hr k hk
      obtain ⟨f, rfl, hcm, hf⟩ := hj.opened [92, 93, 94, 95, 96, 13, 14] (by kernel_rfl)
      replace hcm : Below w14.heap.size w14 w15 := hcm
      have e13 : f 13 = .int .i64 0 := (hf 5 _ _ rfl rfl (hu 5 (by omega))).2 _ rfl
      have e14 : f 14 = .int .i64 k := (hf 6 _ _ rfl rfl (hu 6 (by omega))).2 _ rfl
      replace HB : Hid (Below w.heap.size w w15) := Lib.hid (HB.out.trans (hcm.mono HB.out.size))
      replace CZ := Lib.hid (CZ.out.after hcm)
      replace lq := Nat.lt_of_lt_of_le lq hcm.size
      have kq := keep_cell hcm KQ.out
      have kp := keep_cell hcm KP.out
      replace lp := Nat.lt_of_lt_of_le lp hcm.size
      clear hf hj hr hu hcm KQ KP
      simp only [List.foldl_cons, List.foldl_nil, List.setIfInBounds_toArray, List.set_cons_zero, List.set_cons_succ]
      rw [e13, e14]
      clear e13 e14
      generalize f 92 = g92
      generalize f 93 = g93
      generalize f 94 = g94
      generalize f 95 = g95
      generalize f 96 = g96
      clear f
      obtain ⟨cZ0, cZ1, cZ2⟩ := CZ.out.cells3
      have ltZ := CZ.out.lt
      go_wp2_with fail
      clear cZ0 cZ1 cZ2 ltZ
      clear CZ HLO HHI HS HVZ HLQ HLP kq lq kp lp
      clear g_L d_L_H g_H d_L_Z d_H_Z g_Z
      go_loopg [15] (q - 1) (fun g t wx => ∃ j : Nat, 1 ≤ j ∧ j ≤ q ∧ g = q - j ∧ t = .int .i64 (j : Int) ∧ Hid (Below w.heap.size w wx))
      case atStart => exact ⟨1, Nat.le_refl _, hq0, rfl, rfl, HB.out⟩
      case round =>
        obtain ⟨j, hj1, hjq, rfl, rfl, hbl⟩ := hrel
        clear HB
        by_cases hlt : j < q
        · have hjk : (j : Int) < k := by omega
          have hdj : decide ((j : Int) < k) = true := decide_eq_true hjk
          have hbad := HLOOP.out j hj1 hlt
          have b1 := mulb (x := A) (y := (j : Int)) (X := 300) (Y := 60) (by omega) (by omega) (by omega) (by omega)
          have b2 := floor_bd (n := A * (j : Int)) (d := B) (X := 300 * 60) (by omega) b1.1 b1.2
          obtain ⟨G, hG⟩ : ∃ G, A * (j : Int) / B = G := ⟨_, rfl⟩
          rw [hG] at b2 hbad
          have b3 := mulb (x := G) (y := D) (X := 20000) (Y := 60) (by omega) (by omega) (by omega) (by omega)
          have b4 := mulb (x := C) (y := (j : Int)) (X := 300) (Y := 60) (by omega) (by omega) (by omega) (by omega)
          obtain ⟨b1a, b1b⟩ := b1
          obtain ⟨b3a, b3b⟩ := b3
          obtain ⟨b4a, b4b⟩ := b4
          have hG2 := Lib.hid hG
          clear b2 hG
          go_wp2_with fail
          refine (floor_c _ (A * (j : Int)) B (by omega) (by omega) (by omega)).mono ?_
          rw [hG2.out]
          rintro e w20 ⟨rfl, hb20⟩
          replace hbl := Lib.hid (hbl.out.trans (hb20.mono hbl.out.size))
          clear hb20 hG2
          go_wp2_with fail
          go_roundg (q - (j + 1))
          case measure => omega
          case rel => exact ⟨j + 1, by omega, by omega, rfl, by go_num, hbl⟩
        · obtain rfl : j = q := by omega
          have hdj : decide (k < k) = false := decide_eq_false (by omega)
          clear hlt HLOOP
          rcases HM.out with hm1 | ⟨hm1, hm2⟩
          · go_wp2_with fail
            refine (rworks_c _).mono ?_
            rintro e w21 ⟨rfl, hb21⟩
            replace hbl := Lib.hid (hbl.out.trans (hb21.mono hbl.out.size))
            clear hb21
            go_wp2_with fail
            go_ret
            exact ⟨rfl, hbl.out⟩
          · go_wp2_with fail
            refine (rworks_c _).mono ?_
            rintro e w21 ⟨rfl, hb21⟩
            replace hbl := Lib.hid (hbl.out.trans (hb21.mono hbl.out.size))
            clear hb21
            go_wp2_with fail
            go_ret
            exact ⟨rfl, hbl.out⟩
end Go.Proofs.Ytaojdlcailpheaa
