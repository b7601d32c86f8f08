/- The walk of RatioField: sums, products, differences and quotients obey the laws of fractions. -/
import Derived.Test.YtaojdlcailpheaaK29
import Derived.Test.YtaojdlcailpheaaK30
set_option linter.unusedVariables false
namespace Go.Proofs.Ytaojdlcailpheaa
open Go.RowKit

set_option maxRecDepth 100000 in
set_option maxHeartbeats 16000000 in
theorem field_walk (w : World) (a b c d e f' : Int) (a0 : -32768 ≤ a) (a1 : a ≤ 32767) (b0 : -32768 ≤ b) (b1 : b ≤ 32767) (c0 : -32768 ≤ c) (c1 : c ≤ 32767) (d0 : -32768 ≤ d) (d1 : d ≤ 32767) (e0 : -32768 ≤ e) (e1 : e ≤ 32767) (f0 : -32768 ≤ f') (f1 : f' ≤ 32767) :
    Calls Try.prog 7 #[.agg #[.int .i16 a, .int .i16 b, .int .i16 c, .int .i16 d, .int .i16 e, .int .i16 f']] w fun e w' => e = .returned (.bool true) ∧ Below w.heap.size w w' := by
  obtain ⟨X, hX⟩ : ∃ X, smallF a b = X := ⟨_, rfl⟩
  obtain ⟨Y, hY⟩ : ∃ X, smallF c d = X := ⟨_, rfl⟩
  obtain ⟨Z, hZ⟩ : ∃ X, smallF e f' = X := ⟨_, rfl⟩
  have sx := small_sm a0 a1 b0 b1
  have sy := small_sm c0 c1 d0 d1
  have sz := small_sm e0 e1 f0 f1
  rw [hX] at sx
  rw [hY] at sy
  rw [hZ] at sz
  have HX := Lib.hid hX
  have HY := Lib.hid hY
  have HZ := Lib.hid hZ
  generalize smZ a b = x at sx
  generalize smD b = x' at sx
  generalize smZ c d = y at sy
  generalize smD d = y' at sy
  generalize smZ e f' = z at sz
  generalize smD f' = z' at sz
  clear hX hY hZ
  obtain ⟨P1, h1, s1⟩ := sx.add sy (by omega)
  obtain ⟨Q, h, s⟩ := sy.add sx (by omega)
  obtain rfl : Q = P1 := s.eq s1 (by push_cast; grind)
  have H1 := Lib.hid h1
  have H1' := Lib.hid h
  clear h1 h s
  obtain ⟨Q2, h, s⟩ := s1.sub sy (by omega)
  obtain rfl : Q2 = X := s.eq sx (by push_cast; grind)
  have H2 := Lib.hid h
  clear h s
  obtain ⟨P2, h2, s2⟩ := sy.add sz (by omega)
  obtain ⟨P3, h3, s3⟩ := s1.add sz (by omega)
  obtain ⟨Q3, h, s⟩ := sx.add s2 (by omega)
  obtain rfl : Q3 = P3 := s.eq s3 (by push_cast; grind)
  have H3 := Lib.hid h2
  have H4 := Lib.hid h3
  have H5 := Lib.hid h
  clear h2 h3 h s
  obtain ⟨P4, h4, s4⟩ := sx.mul sy (by omega)
  obtain ⟨Q4, h, s⟩ := sy.mul sx (by omega)
  obtain rfl : Q4 = P4 := s.eq s4 (by push_cast; grind)
  have H6 := Lib.hid h4
  have H7 := Lib.hid h
  clear h4 h s
  obtain ⟨P5, h5, s5⟩ := sx.mul sz (by omega)
  obtain ⟨P6, h6, s6⟩ := s4.add s5 (by omega)
  obtain ⟨Q6, h, s⟩ := sx.mul s2 (by omega)
  obtain rfl : Q6 = P6 := s.eq s6 (by push_cast; grind)
  have H8 := Lib.hid h5
  have H9 := Lib.hid h6
  have H10 := Lib.hid h
  clear h5 h6 h s
  have hdv : (Y.num.length ≤ 0 ∧ opF divN Q4 Y = (F0, 2)) ∨ (0 < Y.num.length ∧ opF divN Q4 Y = (Q2, 0)) := by
    rcases Nat.eq_zero_or_pos Y.num.length with hl | hl
    · left
      refine ⟨by omega, ?_⟩
      have hy0 := sy.1.neg_zero.1.1 (by omega)
      obtain ⟨_, s, aa, bb, rfl, hk, _⟩ := s4.1
      obtain ⟨_, t, cc, dd, rfl, hk', _⟩ := sy.1
      rw [opF_fr hk hk']
      unfold divN
      rw [if_pos (limbs_len_zero.1 hl)]
    · right
      refine ⟨hl, ?_⟩
      have hy0 : y ≠ 0 := fun e => by have := sy.1.neg_zero.1.2 e; omega
      obtain ⟨V, hV, sV⟩ := s4.div sy hy0 (by omega)
      obtain rfl : V = Q2 := sV.eq sx (by
        push_cast
        have hs : y.sign * y = y.natAbs := by
          rcases Int.lt_or_gt_of_ne hy0 with h | h
          · rw [Int.sign_eq_neg_one_of_neg h]; omega
          · rw [Int.sign_eq_one_of_pos h]; omega
        have e1 : x * y * (y' : Int) * y.sign * (x' : Int) = x * (x' : Int) * (y' : Int) * (y.sign * y) := by grind
        rw [e1, hs]
        grind)
      exact hV
  have HDV := Lib.hid hdv
  clear hdv s1 s2 s3 s4 s5 s6 sx sy sz
  obtain ⟨W0, hW⟩ : ∃ W0, W0 = w.alloc (.cells #[.int .i16 a, .int .i16 b, .int .i16 c, .int .i16 d, .int .i16 e, .int .i16 f'] 47) := ⟨_, rfl⟩
  have hb0 : Below w.heap.size w W0 := hW ▸ held_alloc (Below.refl _ w)
  have bx : Box W0 w.heap.size #[.int .i16 a, .int .i16 b, .int .i16 c, .int .i16 d, .int .i16 e, .int .i16 f'] 47 := hW ▸ Box.new w _ _
  have k0 : W0.cell? ⟨w.heap.size, 0, none⟩ = some (.int .i16 a) := bx.cell 0
  have k1 : W0.cell? ⟨w.heap.size, 1, none⟩ = some (.int .i16 b) := bx.cell 1
  have k2 : W0.cell? ⟨w.heap.size, 2, none⟩ = some (.int .i16 c) := bx.cell 2
  have k3 : W0.cell? ⟨w.heap.size, 3, none⟩ = some (.int .i16 d) := bx.cell 3
  have k4 : W0.cell? ⟨w.heap.size, 4, none⟩ = some (.int .i16 e) := bx.cell 4
  have k5 : W0.cell? ⟨w.heap.size, 5, none⟩ = some (.int .i16 f') := bx.cell 5
  have HB0 := Lib.hid hb0
  clear hb0 bx
  go_enter Try.func7, Try.ntmps7
  go_upto_region 1 with fail
  rw [← hW]
  clear hW
  refine wp_region_gj (J := GJ _ (fun _ => SV (fun k => match k with | 4 => some (Q2) | 9 => some (Y) | 14 => some (Z) | _ => none) (fun k => match k with | 0 => some (.pointer (some ⟨w.heap.size, 0, none⟩)) | 1 => some (.int .i16 a) | 2 => some (.pointer (some ⟨w.heap.size, 1, none⟩)) | 3 => some (.int .i16 b) | 5 => some (.pointer (some ⟨w.heap.size, 2, none⟩)) | 6 => some (.int .i16 c) | 7 => some (.pointer (some ⟨w.heap.size, 3, none⟩)) | 8 => some (.int .i16 d) | 10 => some (.pointer (some ⟨w.heap.size, 4, none⟩)) | 11 => some (.int .i16 e) | 12 => some (.pointer (some ⟨w.heap.size, 5, none⟩)) | 13 => some (.int .i16 f') | _ => none)) (CV W0 [⟨15, 18, Q2, 3⟩, ⟨16, 19, Y, 4⟩, ⟨17, 20, Z, 5⟩]) _) (by kernel_rfl) ?_ ?_ (GJ.start CV.start)
  · intro listed a w9 i hr hj
    obtain ⟨hi12, hun, _, _, _⟩ := ready_mem hr
    have h12 : i ∈ List.range 21 := List.mem_range.2 hi12
    simp only [List.range, List.range.loop, List.mem_cons, List.not_mem_nil, or_false] at h12
    obtain ⟨f, rfl, hcm, hf⟩ := hj.opened [19, 20, 21, 22, 23, 24, 25, 26, 27, 28, 29, 30, 31, 32, 33, 3, 4, 5] (by kernel_rfl)
    have hcm : CV W0 [⟨15, 18, Q2, 3⟩, ⟨16, 19, Y, 4⟩, ⟨17, 20, Z, 5⟩] listed f w9 := hcm
    rcases h12 with rfl | rfl | rfl | rfl | rfl | rfl | rfl | rfl | rfl | rfl | rfl | rfl | rfl | rfl | rfl | rfl | rfl | rfl | rfl | rfl | rfl
    · refine GJ.op hj (by kernel_rfl) hr rfl [19, 20, 21, 22, 23, 24, 25, 26, 27, 28, 29, 30, 31, 32, 33, 3, 4, 5] (by kernel_rfl) (fun K hK => ?_)
      simp only [Act.put, List.foldl_cons, List.foldl_nil, List.setIfInBounds_toArray, List.set_cons_zero, List.set_cons_succ] at hK ⊢
      clear hj hf
      go_simp
      exact hK _ _ (fun k v _ _ h => h.keep (Below.refl _ _)) (fun t ht => SV.eq rfl rfl) (hcm.keep (Below.refl _ _) (fun e he => by simp only [List.mem_cons, List.not_mem_nil, or_false] at he; rcases he with rfl | rfl | rfl <;> (first | rfl | simp)) (fun e he => by simp only [List.mem_cons, List.not_mem_nil, or_false] at he; rcases he with rfl | rfl | rfl <;> (first | rfl | simp)))
    · have e1 : f 19 = .pointer (some ⟨w.heap.size, 0, none⟩) := (hf 0 _ _ rfl rfl (up_dep hr (by kernel_rfl))).2 _ rfl
      have kc := keep_cell hcm.1 k0
      have klt := World.block_lt_of_cell? _ _ kc
      simp only at klt
      refine GJ.op hj (by kernel_rfl) hr rfl [19, 20, 21, 22, 23, 24, 25, 26, 27, 28, 29, 30, 31, 32, 33, 3, 4, 5] (by kernel_rfl) (fun K hK => ?_)
      simp only [Act.put, List.foldl_cons, List.foldl_nil, List.setIfInBounds_toArray, List.set_cons_zero, List.set_cons_succ] at hK ⊢
      clear hj hf
      rw [e1] at hK ⊢
      clear e1
      go_simp
      exact hK _ _ (fun k v _ _ h => h.keep (Below.refl _ _)) (fun t ht => SV.eq rfl rfl) (hcm.keep (Below.refl _ _) (fun e he => by simp only [List.mem_cons, List.not_mem_nil, or_false] at he; rcases he with rfl | rfl | rfl <;> (first | rfl | simp)) (fun e he => by simp only [List.mem_cons, List.not_mem_nil, or_false] at he; rcases he with rfl | rfl | rfl <;> (first | rfl | simp)))
    · refine GJ.op hj (by kernel_rfl) hr rfl [19, 20, 21, 22, 23, 24, 25, 26, 27, 28, 29, 30, 31, 32, 33, 3, 4, 5] (by kernel_rfl) (fun K hK => ?_)
      simp only [Act.put, List.foldl_cons, List.foldl_nil, List.setIfInBounds_toArray, List.set_cons_zero, List.set_cons_succ] at hK ⊢
      clear hj hf
      go_simp
      exact hK _ _ (fun k v _ _ h => h.keep (Below.refl _ _)) (fun t ht => SV.eq rfl rfl) (hcm.keep (Below.refl _ _) (fun e he => by simp only [List.mem_cons, List.not_mem_nil, or_false] at he; rcases he with rfl | rfl | rfl <;> (first | rfl | simp)) (fun e he => by simp only [List.mem_cons, List.not_mem_nil, or_false] at he; rcases he with rfl | rfl | rfl <;> (first | rfl | simp)))
    · have e1 : f 21 = .pointer (some ⟨w.heap.size, 1, none⟩) := (hf 2 _ _ rfl rfl (up_dep hr (by kernel_rfl))).2 _ rfl
      have kc := keep_cell hcm.1 k1
      have klt := World.block_lt_of_cell? _ _ kc
      simp only at klt
      refine GJ.op hj (by kernel_rfl) hr rfl [19, 20, 21, 22, 23, 24, 25, 26, 27, 28, 29, 30, 31, 32, 33, 3, 4, 5] (by kernel_rfl) (fun K hK => ?_)
      simp only [Act.put, List.foldl_cons, List.foldl_nil, List.setIfInBounds_toArray, List.set_cons_zero, List.set_cons_succ] at hK ⊢
      clear hj hf
      rw [e1] at hK ⊢
      clear e1
      go_simp
      exact hK _ _ (fun k v _ _ h => h.keep (Below.refl _ _)) (fun t ht => SV.eq rfl rfl) (hcm.keep (Below.refl _ _) (fun e he => by simp only [List.mem_cons, List.not_mem_nil, or_false] at he; rcases he with rfl | rfl | rfl <;> (first | rfl | simp)) (fun e he => by simp only [List.mem_cons, List.not_mem_nil, or_false] at he; rcases he with rfl | rfl | rfl <;> (first | rfl | simp)))
    · have e1 : f 20 = .int .i16 a := (hf 1 _ _ rfl rfl (up_dep hr (by kernel_rfl))).2 _ rfl
      have e2 : f 22 = .int .i16 b := (hf 3 _ _ rfl rfl (up_dep hr (by kernel_rfl))).2 _ rfl
      refine GJ.op hj (by kernel_rfl) hr rfl [19, 20, 21, 22, 23, 24, 25, 26, 27, 28, 29, 30, 31, 32, 33, 3, 4, 5] (by kernel_rfl) (fun K hK => ?_)
      simp only [Act.put, List.foldl_cons, List.foldl_nil, List.setIfInBounds_toArray, List.set_cons_zero, List.set_cons_succ] at hK ⊢
      clear hj hf
      rw [e1, e2] at hK ⊢
      clear e1 e2
      go_simp
      refine ((HX.out ▸ small_c w9 a b a0 a1 b0 b1)).mono ?_
      rintro e w10 ⟨v10, rfl, hv10, hb10⟩
      exact hK _ _ (fun k v _ _ h => h.keep hb10) (fun t ht => SV.isF rfl rfl hv10) (hcm.keep hb10 (fun e he => by simp only [List.mem_cons, List.not_mem_nil, or_false] at he; rcases he with rfl | rfl | rfl <;> (first | rfl | simp)) (fun e he => by simp only [List.mem_cons, List.not_mem_nil, or_false] at he; rcases he with rfl | rfl | rfl <;> (first | rfl | simp)))
    · refine GJ.op hj (by kernel_rfl) hr rfl [19, 20, 21, 22, 23, 24, 25, 26, 27, 28, 29, 30, 31, 32, 33, 3, 4, 5] (by kernel_rfl) (fun K hK => ?_)
      simp only [Act.put, List.foldl_cons, List.foldl_nil, List.setIfInBounds_toArray, List.set_cons_zero, List.set_cons_succ] at hK ⊢
      clear hj hf
      go_simp
      exact hK _ _ (fun k v _ _ h => h.keep (Below.refl _ _)) (fun t ht => SV.eq rfl rfl) (hcm.keep (Below.refl _ _) (fun e he => by simp only [List.mem_cons, List.not_mem_nil, or_false] at he; rcases he with rfl | rfl | rfl <;> (first | rfl | simp)) (fun e he => by simp only [List.mem_cons, List.not_mem_nil, or_false] at he; rcases he with rfl | rfl | rfl <;> (first | rfl | simp)))
    · have e1 : f 24 = .pointer (some ⟨w.heap.size, 2, none⟩) := (hf 5 _ _ rfl rfl (up_dep hr (by kernel_rfl))).2 _ rfl
      have kc := keep_cell hcm.1 k2
      have klt := World.block_lt_of_cell? _ _ kc
      simp only at klt
      refine GJ.op hj (by kernel_rfl) hr rfl [19, 20, 21, 22, 23, 24, 25, 26, 27, 28, 29, 30, 31, 32, 33, 3, 4, 5] (by kernel_rfl) (fun K hK => ?_)
      simp only [Act.put, List.foldl_cons, List.foldl_nil, List.setIfInBounds_toArray, List.set_cons_zero, List.set_cons_succ] at hK ⊢
      clear hj hf
      rw [e1] at hK ⊢
      clear e1
      go_simp
      exact hK _ _ (fun k v _ _ h => h.keep (Below.refl _ _)) (fun t ht => SV.eq rfl rfl) (hcm.keep (Below.refl _ _) (fun e he => by simp only [List.mem_cons, List.not_mem_nil, or_false] at he; rcases he with rfl | rfl | rfl <;> (first | rfl | simp)) (fun e he => by simp only [List.mem_cons, List.not_mem_nil, or_false] at he; rcases he with rfl | rfl | rfl <;> (first | rfl | simp)))
    · refine GJ.op hj (by kernel_rfl) hr rfl [19, 20, 21, 22, 23, 24, 25, 26, 27, 28, 29, 30, 31, 32, 33, 3, 4, 5] (by kernel_rfl) (fun K hK => ?_)
      simp only [Act.put, List.foldl_cons, List.foldl_nil, List.setIfInBounds_toArray, List.set_cons_zero, List.set_cons_succ] at hK ⊢
      clear hj hf
      go_simp
      exact hK _ _ (fun k v _ _ h => h.keep (Below.refl _ _)) (fun t ht => SV.eq rfl rfl) (hcm.keep (Below.refl _ _) (fun e he => by simp only [List.mem_cons, List.not_mem_nil, or_false] at he; rcases he with rfl | rfl | rfl <;> (first | rfl | simp)) (fun e he => by simp only [List.mem_cons, List.not_mem_nil, or_false] at he; rcases he with rfl | rfl | rfl <;> (first | rfl | simp)))
    · have e1 : f 26 = .pointer (some ⟨w.heap.size, 3, none⟩) := (hf 7 _ _ rfl rfl (up_dep hr (by kernel_rfl))).2 _ rfl
      have kc := keep_cell hcm.1 k3
      have klt := World.block_lt_of_cell? _ _ kc
      simp only at klt
      refine GJ.op hj (by kernel_rfl) hr rfl [19, 20, 21, 22, 23, 24, 25, 26, 27, 28, 29, 30, 31, 32, 33, 3, 4, 5] (by kernel_rfl) (fun K hK => ?_)
      simp only [Act.put, List.foldl_cons, List.foldl_nil, List.setIfInBounds_toArray, List.set_cons_zero, List.set_cons_succ] at hK ⊢
      clear hj hf
      rw [e1] at hK ⊢
      clear e1
      go_simp
      exact hK _ _ (fun k v _ _ h => h.keep (Below.refl _ _)) (fun t ht => SV.eq rfl rfl) (hcm.keep (Below.refl _ _) (fun e he => by simp only [List.mem_cons, List.not_mem_nil, or_false] at he; rcases he with rfl | rfl | rfl <;> (first | rfl | simp)) (fun e he => by simp only [List.mem_cons, List.not_mem_nil, or_false] at he; rcases he with rfl | rfl | rfl <;> (first | rfl | simp)))
    · have e1 : f 25 = .int .i16 c := (hf 6 _ _ rfl rfl (up_dep hr (by kernel_rfl))).2 _ rfl
      have e2 : f 27 = .int .i16 d := (hf 8 _ _ rfl rfl (up_dep hr (by kernel_rfl))).2 _ rfl
      refine GJ.op hj (by kernel_rfl) hr rfl [19, 20, 21, 22, 23, 24, 25, 26, 27, 28, 29, 30, 31, 32, 33, 3, 4, 5] (by kernel_rfl) (fun K hK => ?_)
      simp only [Act.put, List.foldl_cons, List.foldl_nil, List.setIfInBounds_toArray, List.set_cons_zero, List.set_cons_succ] at hK ⊢
      clear hj hf
      rw [e1, e2] at hK ⊢
      clear e1 e2
      go_simp
      refine ((HY.out ▸ small_c w9 c d c0 c1 d0 d1)).mono ?_
      rintro e w10 ⟨v10, rfl, hv10, hb10⟩
      exact hK _ _ (fun k v _ _ h => h.keep hb10) (fun t ht => SV.isF rfl rfl hv10) (hcm.keep hb10 (fun e he => by simp only [List.mem_cons, List.not_mem_nil, or_false] at he; rcases he with rfl | rfl | rfl <;> (first | rfl | simp)) (fun e he => by simp only [List.mem_cons, List.not_mem_nil, or_false] at he; rcases he with rfl | rfl | rfl <;> (first | rfl | simp)))
    · refine GJ.op hj (by kernel_rfl) hr rfl [19, 20, 21, 22, 23, 24, 25, 26, 27, 28, 29, 30, 31, 32, 33, 3, 4, 5] (by kernel_rfl) (fun K hK => ?_)
      simp only [Act.put, List.foldl_cons, List.foldl_nil, List.setIfInBounds_toArray, List.set_cons_zero, List.set_cons_succ] at hK ⊢
      clear hj hf
      go_simp
      exact hK _ _ (fun k v _ _ h => h.keep (Below.refl _ _)) (fun t ht => SV.eq rfl rfl) (hcm.keep (Below.refl _ _) (fun e he => by simp only [List.mem_cons, List.not_mem_nil, or_false] at he; rcases he with rfl | rfl | rfl <;> (first | rfl | simp)) (fun e he => by simp only [List.mem_cons, List.not_mem_nil, or_false] at he; rcases he with rfl | rfl | rfl <;> (first | rfl | simp)))
    · have e1 : f 29 = .pointer (some ⟨w.heap.size, 4, none⟩) := (hf 10 _ _ rfl rfl (up_dep hr (by kernel_rfl))).2 _ rfl
      have kc := keep_cell hcm.1 k4
      have klt := World.block_lt_of_cell? _ _ kc
      simp only at klt
      refine GJ.op hj (by kernel_rfl) hr rfl [19, 20, 21, 22, 23, 24, 25, 26, 27, 28, 29, 30, 31, 32, 33, 3, 4, 5] (by kernel_rfl) (fun K hK => ?_)
      simp only [Act.put, List.foldl_cons, List.foldl_nil, List.setIfInBounds_toArray, List.set_cons_zero, List.set_cons_succ] at hK ⊢
      clear hj hf
      rw [e1] at hK ⊢
      clear e1
      go_simp
      exact hK _ _ (fun k v _ _ h => h.keep (Below.refl _ _)) (fun t ht => SV.eq rfl rfl) (hcm.keep (Below.refl _ _) (fun e he => by simp only [List.mem_cons, List.not_mem_nil, or_false] at he; rcases he with rfl | rfl | rfl <;> (first | rfl | simp)) (fun e he => by simp only [List.mem_cons, List.not_mem_nil, or_false] at he; rcases he with rfl | rfl | rfl <;> (first | rfl | simp)))
    · refine GJ.op hj (by kernel_rfl) hr rfl [19, 20, 21, 22, 23, 24, 25, 26, 27, 28, 29, 30, 31, 32, 33, 3, 4, 5] (by kernel_rfl) (fun K hK => ?_)
      simp only [Act.put, List.foldl_cons, List.foldl_nil, List.setIfInBounds_toArray, List.set_cons_zero, List.set_cons_succ] at hK ⊢
      clear hj hf
      go_simp
      exact hK _ _ (fun k v _ _ h => h.keep (Below.refl _ _)) (fun t ht => SV.eq rfl rfl) (hcm.keep (Below.refl _ _) (fun e he => by simp only [List.mem_cons, List.not_mem_nil, or_false] at he; rcases he with rfl | rfl | rfl <;> (first | rfl | simp)) (fun e he => by simp only [List.mem_cons, List.not_mem_nil, or_false] at he; rcases he with rfl | rfl | rfl <;> (first | rfl | simp)))
    · have e1 : f 31 = .pointer (some ⟨w.heap.size, 5, none⟩) := (hf 12 _ _ rfl rfl (up_dep hr (by kernel_rfl))).2 _ rfl
      have kc := keep_cell hcm.1 k5
      have klt := World.block_lt_of_cell? _ _ kc
      simp only at klt
      refine GJ.op hj (by kernel_rfl) hr rfl [19, 20, 21, 22, 23, 24, 25, 26, 27, 28, 29, 30, 31, 32, 33, 3, 4, 5] (by kernel_rfl) (fun K hK => ?_)
      simp only [Act.put, List.foldl_cons, List.foldl_nil, List.setIfInBounds_toArray, List.set_cons_zero, List.set_cons_succ] at hK ⊢
      clear hj hf
      rw [e1] at hK ⊢
      clear e1
      go_simp
      exact hK _ _ (fun k v _ _ h => h.keep (Below.refl _ _)) (fun t ht => SV.eq rfl rfl) (hcm.keep (Below.refl _ _) (fun e he => by simp only [List.mem_cons, List.not_mem_nil, or_false] at he; rcases he with rfl | rfl | rfl <;> (first | rfl | simp)) (fun e he => by simp only [List.mem_cons, List.not_mem_nil, or_false] at he; rcases he with rfl | rfl | rfl <;> (first | rfl | simp)))
    · have e1 : f 30 = .int .i16 e := (hf 11 _ _ rfl rfl (up_dep hr (by kernel_rfl))).2 _ rfl
      have e2 : f 32 = .int .i16 f' := (hf 13 _ _ rfl rfl (up_dep hr (by kernel_rfl))).2 _ rfl
      refine GJ.op hj (by kernel_rfl) hr rfl [19, 20, 21, 22, 23, 24, 25, 26, 27, 28, 29, 30, 31, 32, 33, 3, 4, 5] (by kernel_rfl) (fun K hK => ?_)
      simp only [Act.put, List.foldl_cons, List.foldl_nil, List.setIfInBounds_toArray, List.set_cons_zero, List.set_cons_succ] at hK ⊢
      clear hj hf
      rw [e1, e2] at hK ⊢
      clear e1 e2
      go_simp
      refine ((HZ.out ▸ small_c w9 e f' e0 e1 f0 f1)).mono ?_
      rintro e w10 ⟨v10, rfl, hv10, hb10⟩
      exact hK _ _ (fun k v _ _ h => h.keep hb10) (fun t ht => SV.isF rfl rfl hv10) (hcm.keep hb10 (fun e he => by simp only [List.mem_cons, List.not_mem_nil, or_false] at he; rcases he with rfl | rfl | rfl <;> (first | rfl | simp)) (fun e he => by simp only [List.mem_cons, List.not_mem_nil, or_false] at he; rcases he with rfl | rfl | rfl <;> (first | rfl | simp)))
    · have nst : ¬ up listed 18 := fun h => not_up hun (hj.closed 18 15 h (by kernel_rfl))
      refine GJ.op hj (by kernel_rfl) hr rfl [19, 20, 21, 22, 23, 24, 25, 26, 27, 28, 29, 30, 31, 32, 33, 3, 4, 5] (by kernel_rfl) (fun K hK => ?_)
      simp only [Act.put, List.foldl_cons, List.foldl_nil, List.setIfInBounds_toArray, List.set_cons_zero, List.set_cons_succ] at hK ⊢
      clear hj hf
      go_simp
      exact hK _ _ (fun k v _ _ h => h.keep (held_alloc (Below.refl _ _))) (fun t ht => SV.any rfl rfl) (hcm.new ⟨15, 18, Q2, 3⟩ (by simp) rfl (fun e he => by simp only [List.mem_cons, List.not_mem_nil, or_false] at he; rcases he with rfl | rfl | rfl <;> (first | (intro _; rfl) | simp)) (fun e he => by simp only [List.mem_cons, List.not_mem_nil, or_false] at he; rcases he with rfl | rfl | rfl <;> (first | (intro _; rfl) | simp)) (fun e he => by simp only [List.mem_cons, List.not_mem_nil, or_false] at he; rcases he with rfl | rfl | rfl <;> (first | rfl | simp)) nst rfl (fun e he => by simp only [List.mem_cons, List.not_mem_nil, or_false] at he; rcases he with rfl | rfl | rfl <;> (first | (intro _; rfl) | simp)))
    · have nst : ¬ up listed 19 := fun h => not_up hun (hj.closed 19 16 h (by kernel_rfl))
      refine GJ.op hj (by kernel_rfl) hr rfl [19, 20, 21, 22, 23, 24, 25, 26, 27, 28, 29, 30, 31, 32, 33, 3, 4, 5] (by kernel_rfl) (fun K hK => ?_)
      simp only [Act.put, List.foldl_cons, List.foldl_nil, List.setIfInBounds_toArray, List.set_cons_zero, List.set_cons_succ] at hK ⊢
      clear hj hf
      go_simp
      exact hK _ _ (fun k v _ _ h => h.keep (held_alloc (Below.refl _ _))) (fun t ht => SV.any rfl rfl) (hcm.new ⟨16, 19, Y, 4⟩ (by simp) rfl (fun e he => by simp only [List.mem_cons, List.not_mem_nil, or_false] at he; rcases he with rfl | rfl | rfl <;> (first | (intro _; rfl) | simp)) (fun e he => by simp only [List.mem_cons, List.not_mem_nil, or_false] at he; rcases he with rfl | rfl | rfl <;> (first | (intro _; rfl) | simp)) (fun e he => by simp only [List.mem_cons, List.not_mem_nil, or_false] at he; rcases he with rfl | rfl | rfl <;> (first | rfl | simp)) nst rfl (fun e he => by simp only [List.mem_cons, List.not_mem_nil, or_false] at he; rcases he with rfl | rfl | rfl <;> (first | (intro _; rfl) | simp)))
    · have nst : ¬ up listed 20 := fun h => not_up hun (hj.closed 20 17 h (by kernel_rfl))
      refine GJ.op hj (by kernel_rfl) hr rfl [19, 20, 21, 22, 23, 24, 25, 26, 27, 28, 29, 30, 31, 32, 33, 3, 4, 5] (by kernel_rfl) (fun K hK => ?_)
      simp only [Act.put, List.foldl_cons, List.foldl_nil, List.setIfInBounds_toArray, List.set_cons_zero, List.set_cons_succ] at hK ⊢
      clear hj hf
      go_simp
      exact hK _ _ (fun k v _ _ h => h.keep (held_alloc (Below.refl _ _))) (fun t ht => SV.any rfl rfl) (hcm.new ⟨17, 20, Z, 5⟩ (by simp) rfl (fun e he => by simp only [List.mem_cons, List.not_mem_nil, or_false] at he; rcases he with rfl | rfl | rfl <;> (first | (intro _; rfl) | simp)) (fun e he => by simp only [List.mem_cons, List.not_mem_nil, or_false] at he; rcases he with rfl | rfl | rfl <;> (first | (intro _; rfl) | simp)) (fun e he => by simp only [List.mem_cons, List.not_mem_nil, or_false] at he; rcases he with rfl | rfl | rfl <;> (first | rfl | simp)) nst rfl (fun e he => by simp only [List.mem_cons, List.not_mem_nil, or_false] at he; rcases he with rfl | rfl | rfl <;> (first | (intro _; rfl) | simp)))
    · have hcl := hj.closed
      have hsz := hj.lsize
      have hlt : 18 < listed.size := by rw [hsz]; decide
      have hua : ∀ e ∈ ([⟨15, 18, Q2, 3⟩, ⟨16, 19, Y, 4⟩, ⟨17, 20, Z, 5⟩] : List VE), up listed e.al := fun e he => by simp only [List.mem_cons, List.not_mem_nil, or_false] at he; rcases he with rfl | rfl | rfl <;> exact up_dep hr (by kernel_rfl)
      have s1 : IsF w9 (f 23) (Q2) := (hf 4 _ _ rfl rfl (up_dep hr (by kernel_rfl))).1 _ rfl
      obtain ⟨blk, e1, hbw, hbl, hyes, hnot⟩ := hcm.2.1 ⟨15, 18, Q2, 3⟩ (by simp) (up_dep hr (by kernel_rfl))
      have hz : zeroB w9 blk := hnot (not_up hun)
      obtain ⟨va, vb, e2, h1, h2⟩ := s1
      obtain ⟨pa, ca, rfl, _, _⟩ := h1.shape
      obtain ⟨pb, cb, rfl, _, _⟩ := h2.shape
      refine GJ.op hj (by kernel_rfl) hr rfl [19, 20, 21, 22, 23, 24, 25, 26, 27, 28, 29, 30, 31, 32, 33, 3, 4, 5] (by kernel_rfl) (fun K hK => ?_)
      simp only [Act.put, List.foldl_cons, List.foldl_nil, List.setIfInBounds_toArray, List.set_cons_zero, List.set_cons_succ] at hK ⊢
      clear hj hf
      obtain ⟨z0, z1, z2⟩ := Box.cells3 hz
      have q0 := Box.frozen hz 0
      have q1 := Box.frozen hz 1
      have q2 := Box.frozen hz 2
      obtain ⟨za, hza⟩ : ∃ z, f 3 = z := ⟨_, rfl⟩
      obtain ⟨zb, hzb⟩ : ∃ z, f 23 = z := ⟨_, rfl⟩
      rw [hza, hzb] at hK ⊢
      simp only at e1
      rw [hza] at e1
      rw [hzb] at e2
      subst e1 e2
      clear hzb
      go_simp
      exact hK undef _ (fun k v _ _ h => h.fx (fx_set3 blk _ _ _) (Box.noT hz)) (fun t ht => by cases ht) (hcm.put ⟨15, 18, Q2, 3⟩ (by simp) rfl (fun e he => by simp only [List.mem_cons, List.not_mem_nil, or_false] at he; rcases he with rfl | rfl | rfl <;> (first | (intro _; rfl) | simp)) (fun e he => by simp only [List.mem_cons, List.not_mem_nil, or_false] at he; rcases he with rfl | rfl | rfl <;> (first | (intro _; rfl) | simp)) hlt hua hza hz ⟨_, _, rfl, h1, h2⟩ (fun e he => by simp only [List.mem_cons, List.not_mem_nil, or_false] at he; rcases he with rfl | rfl | rfl <;> (first | rfl | exact hza.symm)))
    · have hcl := hj.closed
      have hsz := hj.lsize
      have hlt : 19 < listed.size := by rw [hsz]; decide
      have hua : ∀ e ∈ ([⟨15, 18, Q2, 3⟩, ⟨16, 19, Y, 4⟩, ⟨17, 20, Z, 5⟩] : List VE), up listed e.al := fun e he => by simp only [List.mem_cons, List.not_mem_nil, or_false] at he; rcases he with rfl | rfl | rfl <;> exact up_dep hr (by kernel_rfl)
      have s1 : IsF w9 (f 28) (Y) := (hf 9 _ _ rfl rfl (up_dep hr (by kernel_rfl))).1 _ rfl
      obtain ⟨blk, e1, hbw, hbl, hyes, hnot⟩ := hcm.2.1 ⟨16, 19, Y, 4⟩ (by simp) (up_dep hr (by kernel_rfl))
      have hz : zeroB w9 blk := hnot (not_up hun)
      obtain ⟨va, vb, e2, h1, h2⟩ := s1
      obtain ⟨pa, ca, rfl, _, _⟩ := h1.shape
      obtain ⟨pb, cb, rfl, _, _⟩ := h2.shape
      refine GJ.op hj (by kernel_rfl) hr rfl [19, 20, 21, 22, 23, 24, 25, 26, 27, 28, 29, 30, 31, 32, 33, 3, 4, 5] (by kernel_rfl) (fun K hK => ?_)
      simp only [Act.put, List.foldl_cons, List.foldl_nil, List.setIfInBounds_toArray, List.set_cons_zero, List.set_cons_succ] at hK ⊢
      clear hj hf
      obtain ⟨z0, z1, z2⟩ := Box.cells3 hz
      have q0 := Box.frozen hz 0
      have q1 := Box.frozen hz 1
      have q2 := Box.frozen hz 2
      obtain ⟨za, hza⟩ : ∃ z, f 4 = z := ⟨_, rfl⟩
      obtain ⟨zb, hzb⟩ : ∃ z, f 28 = z := ⟨_, rfl⟩
      rw [hza, hzb] at hK ⊢
      simp only at e1
      rw [hza] at e1
      rw [hzb] at e2
      subst e1 e2
      clear hzb
      go_simp
      exact hK undef _ (fun k v _ _ h => h.fx (fx_set3 blk _ _ _) (Box.noT hz)) (fun t ht => by cases ht) (hcm.put ⟨16, 19, Y, 4⟩ (by simp) rfl (fun e he => by simp only [List.mem_cons, List.not_mem_nil, or_false] at he; rcases he with rfl | rfl | rfl <;> (first | (intro _; rfl) | simp)) (fun e he => by simp only [List.mem_cons, List.not_mem_nil, or_false] at he; rcases he with rfl | rfl | rfl <;> (first | (intro _; rfl) | simp)) hlt hua hza hz ⟨_, _, rfl, h1, h2⟩ (fun e he => by simp only [List.mem_cons, List.not_mem_nil, or_false] at he; rcases he with rfl | rfl | rfl <;> (first | rfl | exact hza.symm)))
    · have hcl := hj.closed
      have hsz := hj.lsize
      have hlt : 20 < listed.size := by rw [hsz]; decide
      have hua : ∀ e ∈ ([⟨15, 18, Q2, 3⟩, ⟨16, 19, Y, 4⟩, ⟨17, 20, Z, 5⟩] : List VE), up listed e.al := fun e he => by simp only [List.mem_cons, List.not_mem_nil, or_false] at he; rcases he with rfl | rfl | rfl <;> exact up_dep hr (by kernel_rfl)
      have s1 : IsF w9 (f 33) (Z) := (hf 14 _ _ rfl rfl (up_dep hr (by kernel_rfl))).1 _ rfl
      obtain ⟨blk, e1, hbw, hbl, hyes, hnot⟩ := hcm.2.1 ⟨17, 20, Z, 5⟩ (by simp) (up_dep hr (by kernel_rfl))
      have hz : zeroB w9 blk := hnot (not_up hun)
      obtain ⟨va, vb, e2, h1, h2⟩ := s1
      obtain ⟨pa, ca, rfl, _, _⟩ := h1.shape
      obtain ⟨pb, cb, rfl, _, _⟩ := h2.shape
      refine GJ.op hj (by kernel_rfl) hr rfl [19, 20, 21, 22, 23, 24, 25, 26, 27, 28, 29, 30, 31, 32, 33, 3, 4, 5] (by kernel_rfl) (fun K hK => ?_)
      simp only [Act.put, List.foldl_cons, List.foldl_nil, List.setIfInBounds_toArray, List.set_cons_zero, List.set_cons_succ] at hK ⊢
      clear hj hf
      obtain ⟨z0, z1, z2⟩ := Box.cells3 hz
      have q0 := Box.frozen hz 0
      have q1 := Box.frozen hz 1
      have q2 := Box.frozen hz 2
      obtain ⟨za, hza⟩ : ∃ z, f 5 = z := ⟨_, rfl⟩
      obtain ⟨zb, hzb⟩ : ∃ z, f 33 = z := ⟨_, rfl⟩
      rw [hza, hzb] at hK ⊢
      simp only at e1
      rw [hza] at e1
      rw [hzb] at e2
      subst e1 e2
      clear hzb
      go_simp
      exact hK undef _ (fun k v _ _ h => h.fx (fx_set3 blk _ _ _) (Box.noT hz)) (fun t ht => by cases ht) (hcm.put ⟨17, 20, Z, 5⟩ (by simp) rfl (fun e he => by simp only [List.mem_cons, List.not_mem_nil, or_false] at he; rcases he with rfl | rfl | rfl <;> (first | (intro _; rfl) | simp)) (fun e he => by simp only [List.mem_cons, List.not_mem_nil, or_false] at he; rcases he with rfl | rfl | rfl <;> (first | (intro _; rfl) | simp)) hlt hua hza hz ⟨_, _, rfl, h1, h2⟩ (fun e he => by simp only [List.mem_cons, List.not_mem_nil, or_false] at he; rcases he with rfl | rfl | rfl <;> (first | rfl | exact hza.symm)))
  · intro listed a w10 hr hj
    have hu : ∀ k, k < 21 → up listed k := fun k hk => all_up (by kernel_rfl) hj.lsize hr k hk
    obtain ⟨f, rfl, hcm, hf⟩ := hj.opened [19, 20, 21, 22, 23, 24, 25, 26, 27, 28, 29, 30, 31, 32, 33, 3, 4, 5] (by kernel_rfl)
    obtain ⟨B3, e3, g3, v3⟩ := hcm.done ⟨15, 18, Q2, 3⟩ (by simp) (hu 15 (by omega)) (hu 18 (by omega))
    obtain ⟨B4, e4, g4, v4⟩ := hcm.done ⟨16, 19, Y, 4⟩ (by simp) (hu 16 (by omega)) (hu 19 (by omega))
    obtain ⟨B5, e5, g5, v5⟩ := hcm.done ⟨17, 20, Z, 5⟩ (by simp) (hu 17 (by omega)) (hu 20 (by omega))
    have HB : Hid (Below w.heap.size w w10) := HB0.out.trans (hcm.1.mono HB0.out.size)
    have HV3 := Lib.hid v3
    have HV4 := Lib.hid v4
    have HV5 := Lib.hid v5
    simp only at e3 e4 e5 HV3 HV4 HV5
    clear hcm hf hj hr hu v3 v4 v5 g3 g4 g5 k0 k1 k2 k3 k4 k5
    simp only [List.foldl_cons, List.foldl_nil, List.setIfInBounds_toArray, List.set_cons_zero, List.set_cons_succ]
    rw [e3, e4, e5]
    clear e3 e4 e5
    generalize f 19 = g19
    generalize f 20 = g20
    generalize f 21 = g21
    generalize f 22 = g22
    generalize f 23 = g23
    generalize f 24 = g24
    generalize f 25 = g25
    generalize f 26 = g26
    generalize f 27 = g27
    generalize f 28 = g28
    generalize f 29 = g29
    generalize f 30 = g30
    generalize f 31 = g31
    generalize f 32 = g32
    generalize f 33 = g33
    clear f
    obtain ⟨va, vb, hbx, h1, h2⟩ := HV3.out
    obtain ⟨pX, mX, rfl, _, _⟩ := h1.shape
    obtain ⟨qX, nX, rfl, _, _⟩ := h2.shape
    have CX := Lib.hid hbx
    have FX := Lib.hid (IsF.at_ h1 h2)
    clear hbx h1 h2
    obtain ⟨va, vb, hbx, h1, h2⟩ := HV4.out
    obtain ⟨pY, mY, rfl, _, _⟩ := h1.shape
    obtain ⟨qY, nY, rfl, _, _⟩ := h2.shape
    have CY := Lib.hid hbx
    have FY := Lib.hid (IsF.at_ h1 h2)
    clear hbx h1 h2
    obtain ⟨va, vb, hbx, h1, h2⟩ := HV5.out
    obtain ⟨pZ, mZ, rfl, _, _⟩ := h1.shape
    obtain ⟨qZ, nZ, rfl, _, _⟩ := h2.shape
    have CZ := Lib.hid hbx
    have FZ := Lib.hid (IsF.at_ h1 h2)
    clear hbx h1 h2
    obtain ⟨cX0, cX1, cX2⟩ := CX.out.cells3
    have ltX := CX.out.lt
    obtain ⟨cY0, cY1, cY2⟩ := CY.out.cells3
    have ltY := CY.out.lt
    obtain ⟨cZ0, cZ1, cZ2⟩ := CZ.out.cells3
    have ltZ := CZ.out.lt
    go_wp2_with fail
    refine (Add_c _ _ _ _ _ FX.out FY.out).mono ?_
    rw [H1.out]
    rintro e w11 ⟨v, rfl, hv, hb11⟩
    have hv : IsF _ v (Q) := hv
    obtain ⟨va, vb, rfl, h1, h2⟩ := hv
    obtain ⟨pP, mP, rfl, _, _⟩ := h1.shape
    obtain ⟨qP, nP, rfl, _, _⟩ := h2.shape
    have FP := Lib.hid (IsF.at_ h1 h2)
    clear h1 h2
    clear cX0 cX1 cX2 ltX cY0 cY1 cY2 ltY cZ0 cZ1 cZ2 ltZ
    replace CX := Lib.hid (CX.out.after hb11)
    replace CY := Lib.hid (CY.out.after hb11)
    replace CZ := Lib.hid (CZ.out.after hb11)
    replace FX := Lib.hid (FX.out.after hb11)
    replace FY := Lib.hid (FY.out.after hb11)
    replace FZ := Lib.hid (FZ.out.after hb11)
    replace HB := Lib.hid (HB.out.trans (hb11.mono HB.out.size))
    clear hb11
    have d_X_P : B3 < w11.heap.size := CX.out.lt
    have d_Y_P : B4 < w11.heap.size := CY.out.lt
    have d_Z_P : B5 < w11.heap.size := CZ.out.lt
    have g_P : w.heap.size ≤ w11.heap.size := by have := HB.out.size; omega
    obtain ⟨cX0, cX1, cX2⟩ := CX.out.cells3
    have ltX := CX.out.lt
    obtain ⟨cY0, cY1, cY2⟩ := CY.out.cells3
    have ltY := CY.out.lt
    obtain ⟨cZ0, cZ1, cZ2⟩ := CZ.out.cells3
    have ltZ := CZ.out.lt
    go_wp2_with fail
    refine (Add_c _ _ _ _ _ (FY.out.alloc _) (FX.out.alloc _)).mono ?_
    rw [H1'.out]
    rintro e w12 ⟨v, rfl, hv, hb12⟩
    have hv : IsF _ v (Q) := hv
    obtain ⟨va, vb, rfl, h1, h2⟩ := hv
    obtain ⟨pR, mR, rfl, _, _⟩ := h1.shape
    obtain ⟨qR, nR, rfl, _, _⟩ := h2.shape
    have FR := Lib.hid (IsF.at_ h1 h2)
    clear h1 h2
    clear cX0 cX1 cX2 ltX cY0 cY1 cY2 ltY cZ0 cZ1 cZ2 ltZ
    obtain ⟨hb12, CP⟩ := after_new hb12
    replace CP := Lib.hid CP
    replace CX := Lib.hid (CX.out.after hb12)
    replace CY := Lib.hid (CY.out.after hb12)
    replace CZ := Lib.hid (CZ.out.after hb12)
    replace FX := Lib.hid (FX.out.after hb12)
    replace FY := Lib.hid (FY.out.after hb12)
    replace FZ := Lib.hid (FZ.out.after hb12)
    replace FP := Lib.hid (FP.out.after hb12)
    replace HB := Lib.hid (HB.out.trans (hb12.mono HB.out.size))
    clear hb12
    have d_X_R : B3 < w12.heap.size := CX.out.lt
    have d_Y_R : B4 < w12.heap.size := CY.out.lt
    have d_Z_R : B5 < w12.heap.size := CZ.out.lt
    have d_P_R : w11.heap.size < w12.heap.size := CP.out.lt
    have g_R : w.heap.size ≤ w12.heap.size := by have := HB.out.size; omega
    obtain ⟨cX0, cX1, cX2⟩ := CX.out.cells3
    have ltX := CX.out.lt
    obtain ⟨cY0, cY1, cY2⟩ := CY.out.cells3
    have ltY := CY.out.lt
    obtain ⟨cZ0, cZ1, cZ2⟩ := CZ.out.cells3
    have ltZ := CZ.out.lt
    obtain ⟨cP0, cP1, cP2⟩ := CP.out.cells3
    have ltP := CP.out.lt
    go_wp2_with fail
    refine (equal_c _ _ _ Q (FP.out.alloc _) (FR.out.alloc _)).mono ?_
    rintro e w13 ⟨rfl, hb13⟩
    clear cX0 cX1 cX2 ltX cY0 cY1 cY2 ltY cZ0 cZ1 cZ2 ltZ cP0 cP1 cP2 ltP
    obtain ⟨hb13, CR⟩ := after_new hb13
    replace CR := Lib.hid CR
    replace CX := Lib.hid (CX.out.after hb13)
    replace CY := Lib.hid (CY.out.after hb13)
    replace CZ := Lib.hid (CZ.out.after hb13)
    replace CP := Lib.hid (CP.out.after hb13)
    replace FX := Lib.hid (FX.out.after hb13)
    replace FY := Lib.hid (FY.out.after hb13)
    replace FZ := Lib.hid (FZ.out.after hb13)
    replace FP := Lib.hid (FP.out.after hb13)
    replace FR := Lib.hid (FR.out.after hb13)
    replace HB := Lib.hid (HB.out.trans (hb13.mono HB.out.size))
    clear hb13
    obtain ⟨cX0, cX1, cX2⟩ := CX.out.cells3
    have ltX := CX.out.lt
    obtain ⟨cY0, cY1, cY2⟩ := CY.out.cells3
    have ltY := CY.out.lt
    obtain ⟨cZ0, cZ1, cZ2⟩ := CZ.out.cells3
    have ltZ := CZ.out.lt
    obtain ⟨cP0, cP1, cP2⟩ := CP.out.cells3
    have ltP := CP.out.lt
    obtain ⟨cR0, cR1, cR2⟩ := CR.out.cells3
    have ltR := CR.out.lt
    go_wp2_with fail
    refine (Sub_c _ _ _ _ _ FP.out FY.out).mono ?_
    rw [H2.out]
    rintro e w14 ⟨v, rfl, hv, hb14⟩
    have hv : IsF _ v (Q2) := hv
    obtain ⟨va, vb, rfl, h1, h2⟩ := hv
    obtain ⟨pK, mK, rfl, _, _⟩ := h1.shape
    obtain ⟨qK, nK, rfl, _, _⟩ := h2.shape
    have FK := Lib.hid (IsF.at_ h1 h2)
    clear h1 h2
    clear cX0 cX1 cX2 ltX cY0 cY1 cY2 ltY cZ0 cZ1 cZ2 ltZ cP0 cP1 cP2 ltP cR0 cR1 cR2 ltR
    replace CX := Lib.hid (CX.out.after hb14)
    replace CY := Lib.hid (CY.out.after hb14)
    replace CZ := Lib.hid (CZ.out.after hb14)
    replace CP := Lib.hid (CP.out.after hb14)
    replace CR := Lib.hid (CR.out.after hb14)
    replace FX := Lib.hid (FX.out.after hb14)
    replace FY := Lib.hid (FY.out.after hb14)
    replace FZ := Lib.hid (FZ.out.after hb14)
    replace FP := Lib.hid (FP.out.after hb14)
    replace FR := Lib.hid (FR.out.after hb14)
    replace HB := Lib.hid (HB.out.trans (hb14.mono HB.out.size))
    clear hb14
    have d_X_K : B3 < w14.heap.size := CX.out.lt
    have d_Y_K : B4 < w14.heap.size := CY.out.lt
    have d_Z_K : B5 < w14.heap.size := CZ.out.lt
    have d_P_K : w11.heap.size < w14.heap.size := CP.out.lt
    have d_R_K : w12.heap.size < w14.heap.size := CR.out.lt
    have g_K : w.heap.size ≤ w14.heap.size := by have := HB.out.size; omega
    obtain ⟨cX0, cX1, cX2⟩ := CX.out.cells3
    have ltX := CX.out.lt
    obtain ⟨cY0, cY1, cY2⟩ := CY.out.cells3
    have ltY := CY.out.lt
    obtain ⟨cZ0, cZ1, cZ2⟩ := CZ.out.cells3
    have ltZ := CZ.out.lt
    obtain ⟨cP0, cP1, cP2⟩ := CP.out.cells3
    have ltP := CP.out.lt
    obtain ⟨cR0, cR1, cR2⟩ := CR.out.cells3
    have ltR := CR.out.lt
    go_wp2_with fail
    refine (equal_c _ _ _ Q2 (FK.out.alloc _) (FX.out.alloc _)).mono ?_
    rintro e w15 ⟨rfl, hb15⟩
    clear cX0 cX1 cX2 ltX cY0 cY1 cY2 ltY cZ0 cZ1 cZ2 ltZ cP0 cP1 cP2 ltP cR0 cR1 cR2 ltR
    obtain ⟨hb15, CK⟩ := after_new hb15
    replace CK := Lib.hid CK
    replace CX := Lib.hid (CX.out.after hb15)
    replace CY := Lib.hid (CY.out.after hb15)
    replace CZ := Lib.hid (CZ.out.after hb15)
    replace CP := Lib.hid (CP.out.after hb15)
    replace CR := Lib.hid (CR.out.after hb15)
    replace FX := Lib.hid (FX.out.after hb15)
    replace FY := Lib.hid (FY.out.after hb15)
    replace FZ := Lib.hid (FZ.out.after hb15)
    replace FP := Lib.hid (FP.out.after hb15)
    replace FR := Lib.hid (FR.out.after hb15)
    replace FK := Lib.hid (FK.out.after hb15)
    replace HB := Lib.hid (HB.out.trans (hb15.mono HB.out.size))
    clear hb15
    obtain ⟨cX0, cX1, cX2⟩ := CX.out.cells3
    have ltX := CX.out.lt
    obtain ⟨cY0, cY1, cY2⟩ := CY.out.cells3
    have ltY := CY.out.lt
    obtain ⟨cZ0, cZ1, cZ2⟩ := CZ.out.cells3
    have ltZ := CZ.out.lt
    obtain ⟨cP0, cP1, cP2⟩ := CP.out.cells3
    have ltP := CP.out.lt
    obtain ⟨cR0, cR1, cR2⟩ := CR.out.cells3
    have ltR := CR.out.lt
    obtain ⟨cK0, cK1, cK2⟩ := CK.out.cells3
    have ltK := CK.out.lt
    go_wp2_with fail
    refine (Add_c _ _ _ _ _ FY.out FZ.out).mono ?_
    rw [H3.out]
    rintro e w16 ⟨v, rfl, hv, hb16⟩
    have hv : IsF _ v (P2) := hv
    obtain ⟨va, vb, rfl, h1, h2⟩ := hv
    obtain ⟨pS, mS, rfl, _, _⟩ := h1.shape
    obtain ⟨qS, nS, rfl, _, _⟩ := h2.shape
    have FS := Lib.hid (IsF.at_ h1 h2)
    clear h1 h2
    clear cX0 cX1 cX2 ltX cY0 cY1 cY2 ltY cZ0 cZ1 cZ2 ltZ cP0 cP1 cP2 ltP cR0 cR1 cR2 ltR cK0 cK1 cK2 ltK
    replace CX := Lib.hid (CX.out.after hb16)
    replace CY := Lib.hid (CY.out.after hb16)
    replace CZ := Lib.hid (CZ.out.after hb16)
    replace CP := Lib.hid (CP.out.after hb16)
    replace CR := Lib.hid (CR.out.after hb16)
    replace CK := Lib.hid (CK.out.after hb16)
    replace FX := Lib.hid (FX.out.after hb16)
    replace FY := Lib.hid (FY.out.after hb16)
    replace FZ := Lib.hid (FZ.out.after hb16)
    replace FP := Lib.hid (FP.out.after hb16)
    replace FR := Lib.hid (FR.out.after hb16)
    replace FK := Lib.hid (FK.out.after hb16)
    replace HB := Lib.hid (HB.out.trans (hb16.mono HB.out.size))
    clear hb16
    have d_X_S : B3 < w16.heap.size := CX.out.lt
    have d_Y_S : B4 < w16.heap.size := CY.out.lt
    have d_Z_S : B5 < w16.heap.size := CZ.out.lt
    have d_P_S : w11.heap.size < w16.heap.size := CP.out.lt
    have d_R_S : w12.heap.size < w16.heap.size := CR.out.lt
    have d_K_S : w14.heap.size < w16.heap.size := CK.out.lt
    have g_S : w.heap.size ≤ w16.heap.size := by have := HB.out.size; omega
    obtain ⟨cX0, cX1, cX2⟩ := CX.out.cells3
    have ltX := CX.out.lt
    obtain ⟨cY0, cY1, cY2⟩ := CY.out.cells3
    have ltY := CY.out.lt
    obtain ⟨cZ0, cZ1, cZ2⟩ := CZ.out.cells3
    have ltZ := CZ.out.lt
    obtain ⟨cP0, cP1, cP2⟩ := CP.out.cells3
    have ltP := CP.out.lt
    obtain ⟨cR0, cR1, cR2⟩ := CR.out.cells3
    have ltR := CR.out.lt
    obtain ⟨cK0, cK1, cK2⟩ := CK.out.cells3
    have ltK := CK.out.lt
    go_wp2_with fail
    refine (Add_c _ _ _ _ _ (FP.out.alloc _) (FZ.out.alloc _)).mono ?_
    rw [H4.out]
    rintro e w17 ⟨v, rfl, hv, hb17⟩
    have hv : IsF _ v (Q3) := hv
    obtain ⟨va, vb, rfl, h1, h2⟩ := hv
    obtain ⟨pA, mA, rfl, _, _⟩ := h1.shape
    obtain ⟨qA, nA, rfl, _, _⟩ := h2.shape
    have FA := Lib.hid (IsF.at_ h1 h2)
    clear h1 h2
    clear cX0 cX1 cX2 ltX cY0 cY1 cY2 ltY cZ0 cZ1 cZ2 ltZ cP0 cP1 cP2 ltP cR0 cR1 cR2 ltR cK0 cK1 cK2 ltK
    obtain ⟨hb17, CS⟩ := after_new hb17
    replace CS := Lib.hid CS
    replace CX := Lib.hid (CX.out.after hb17)
    replace CY := Lib.hid (CY.out.after hb17)
    replace CZ := Lib.hid (CZ.out.after hb17)
    replace CP := Lib.hid (CP.out.after hb17)
    replace CR := Lib.hid (CR.out.after hb17)
    replace CK := Lib.hid (CK.out.after hb17)
    replace FX := Lib.hid (FX.out.after hb17)
    replace FY := Lib.hid (FY.out.after hb17)
    replace FZ := Lib.hid (FZ.out.after hb17)
    replace FP := Lib.hid (FP.out.after hb17)
    replace FR := Lib.hid (FR.out.after hb17)
    replace FK := Lib.hid (FK.out.after hb17)
    replace FS := Lib.hid (FS.out.after hb17)
    replace HB := Lib.hid (HB.out.trans (hb17.mono HB.out.size))
    clear hb17
    have d_X_A : B3 < w17.heap.size := CX.out.lt
    have d_Y_A : B4 < w17.heap.size := CY.out.lt
    have d_Z_A : B5 < w17.heap.size := CZ.out.lt
    have d_P_A : w11.heap.size < w17.heap.size := CP.out.lt
    have d_R_A : w12.heap.size < w17.heap.size := CR.out.lt
    have d_K_A : w14.heap.size < w17.heap.size := CK.out.lt
    have d_S_A : w16.heap.size < w17.heap.size := CS.out.lt
    have g_A : w.heap.size ≤ w17.heap.size := by have := HB.out.size; omega
    obtain ⟨cX0, cX1, cX2⟩ := CX.out.cells3
    have ltX := CX.out.lt
    obtain ⟨cY0, cY1, cY2⟩ := CY.out.cells3
    have ltY := CY.out.lt
    obtain ⟨cZ0, cZ1, cZ2⟩ := CZ.out.cells3
    have ltZ := CZ.out.lt
    obtain ⟨cP0, cP1, cP2⟩ := CP.out.cells3
    have ltP := CP.out.lt
    obtain ⟨cR0, cR1, cR2⟩ := CR.out.cells3
    have ltR := CR.out.lt
    obtain ⟨cK0, cK1, cK2⟩ := CK.out.cells3
    have ltK := CK.out.lt
    obtain ⟨cS0, cS1, cS2⟩ := CS.out.cells3
    have ltS := CS.out.lt
    go_wp2_with fail
    refine (Add_c _ _ _ _ _ (FX.out.alloc _) (FS.out.alloc _)).mono ?_
    rw [H5.out]
    rintro e w18 ⟨v, rfl, hv, hb18⟩
    have hv : IsF _ v (Q3) := hv
    obtain ⟨va, vb, rfl, h1, h2⟩ := hv
    obtain ⟨pB, mB, rfl, _, _⟩ := h1.shape
    obtain ⟨qB, nB, rfl, _, _⟩ := h2.shape
    have FB := Lib.hid (IsF.at_ h1 h2)
    clear h1 h2
    clear cX0 cX1 cX2 ltX cY0 cY1 cY2 ltY cZ0 cZ1 cZ2 ltZ cP0 cP1 cP2 ltP cR0 cR1 cR2 ltR cK0 cK1 cK2 ltK cS0 cS1 cS2 ltS
    obtain ⟨hb18, CA⟩ := after_new hb18
    replace CA := Lib.hid CA
    replace CX := Lib.hid (CX.out.after hb18)
    replace CY := Lib.hid (CY.out.after hb18)
    replace CZ := Lib.hid (CZ.out.after hb18)
    replace CP := Lib.hid (CP.out.after hb18)
    replace CR := Lib.hid (CR.out.after hb18)
    replace CK := Lib.hid (CK.out.after hb18)
    replace CS := Lib.hid (CS.out.after hb18)
    replace FX := Lib.hid (FX.out.after hb18)
    replace FY := Lib.hid (FY.out.after hb18)
    replace FZ := Lib.hid (FZ.out.after hb18)
    replace FP := Lib.hid (FP.out.after hb18)
    replace FR := Lib.hid (FR.out.after hb18)
    replace FK := Lib.hid (FK.out.after hb18)
    replace FS := Lib.hid (FS.out.after hb18)
    replace FA := Lib.hid (FA.out.after hb18)
    replace HB := Lib.hid (HB.out.trans (hb18.mono HB.out.size))
    clear hb18
    have d_X_B : B3 < w18.heap.size := CX.out.lt
    have d_Y_B : B4 < w18.heap.size := CY.out.lt
    have d_Z_B : B5 < w18.heap.size := CZ.out.lt
    have d_P_B : w11.heap.size < w18.heap.size := CP.out.lt
    have d_R_B : w12.heap.size < w18.heap.size := CR.out.lt
    have d_K_B : w14.heap.size < w18.heap.size := CK.out.lt
    have d_S_B : w16.heap.size < w18.heap.size := CS.out.lt
    have d_A_B : w17.heap.size < w18.heap.size := CA.out.lt
    have g_B : w.heap.size ≤ w18.heap.size := by have := HB.out.size; omega
    obtain ⟨cX0, cX1, cX2⟩ := CX.out.cells3
    have ltX := CX.out.lt
    obtain ⟨cY0, cY1, cY2⟩ := CY.out.cells3
    have ltY := CY.out.lt
    obtain ⟨cZ0, cZ1, cZ2⟩ := CZ.out.cells3
    have ltZ := CZ.out.lt
    obtain ⟨cP0, cP1, cP2⟩ := CP.out.cells3
    have ltP := CP.out.lt
    obtain ⟨cR0, cR1, cR2⟩ := CR.out.cells3
    have ltR := CR.out.lt
    obtain ⟨cK0, cK1, cK2⟩ := CK.out.cells3
    have ltK := CK.out.lt
    obtain ⟨cS0, cS1, cS2⟩ := CS.out.cells3
    have ltS := CS.out.lt
    obtain ⟨cA0, cA1, cA2⟩ := CA.out.cells3
    have ltA := CA.out.lt
    go_wp2_with fail
    refine (equal_c _ _ _ Q3 (FA.out.alloc _) (FB.out.alloc _)).mono ?_
    rintro e w19 ⟨rfl, hb19⟩
    clear cX0 cX1 cX2 ltX cY0 cY1 cY2 ltY cZ0 cZ1 cZ2 ltZ cP0 cP1 cP2 ltP cR0 cR1 cR2 ltR cK0 cK1 cK2 ltK cS0 cS1 cS2 ltS cA0 cA1 cA2 ltA
    obtain ⟨hb19, CB⟩ := after_new hb19
    replace CB := Lib.hid CB
    replace CX := Lib.hid (CX.out.after hb19)
    replace CY := Lib.hid (CY.out.after hb19)
    replace CZ := Lib.hid (CZ.out.after hb19)
    replace CP := Lib.hid (CP.out.after hb19)
    replace CR := Lib.hid (CR.out.after hb19)
    replace CK := Lib.hid (CK.out.after hb19)
    replace CS := Lib.hid (CS.out.after hb19)
    replace CA := Lib.hid (CA.out.after hb19)
    replace FX := Lib.hid (FX.out.after hb19)
    replace FY := Lib.hid (FY.out.after hb19)
    replace FZ := Lib.hid (FZ.out.after hb19)
    replace FP := Lib.hid (FP.out.after hb19)
    replace FR := Lib.hid (FR.out.after hb19)
    replace FK := Lib.hid (FK.out.after hb19)
    replace FS := Lib.hid (FS.out.after hb19)
    replace FA := Lib.hid (FA.out.after hb19)
    replace FB := Lib.hid (FB.out.after hb19)
    replace HB := Lib.hid (HB.out.trans (hb19.mono HB.out.size))
    clear hb19
    obtain ⟨cX0, cX1, cX2⟩ := CX.out.cells3
    have ltX := CX.out.lt
    obtain ⟨cY0, cY1, cY2⟩ := CY.out.cells3
    have ltY := CY.out.lt
    obtain ⟨cZ0, cZ1, cZ2⟩ := CZ.out.cells3
    have ltZ := CZ.out.lt
    obtain ⟨cP0, cP1, cP2⟩ := CP.out.cells3
    have ltP := CP.out.lt
    obtain ⟨cR0, cR1, cR2⟩ := CR.out.cells3
    have ltR := CR.out.lt
    obtain ⟨cK0, cK1, cK2⟩ := CK.out.cells3
    have ltK := CK.out.lt
    obtain ⟨cS0, cS1, cS2⟩ := CS.out.cells3
    have ltS := CS.out.lt
    obtain ⟨cA0, cA1, cA2⟩ := CA.out.cells3
    have ltA := CA.out.lt
    obtain ⟨cB0, cB1, cB2⟩ := CB.out.cells3
    have ltB := CB.out.lt
    go_wp2_with fail
    refine (Mul_c _ _ _ _ _ FX.out FY.out).mono ?_
    rw [H6.out]
    rintro e w20 ⟨v, rfl, hv, hb20⟩
    have hv : IsF _ v (Q4) := hv
    obtain ⟨va, vb, rfl, h1, h2⟩ := hv
    obtain ⟨pM, mM, rfl, _, _⟩ := h1.shape
    obtain ⟨qM, nM, rfl, _, _⟩ := h2.shape
    have FM := Lib.hid (IsF.at_ h1 h2)
    clear h1 h2
    clear cX0 cX1 cX2 ltX cY0 cY1 cY2 ltY cZ0 cZ1 cZ2 ltZ cP0 cP1 cP2 ltP cR0 cR1 cR2 ltR cK0 cK1 cK2 ltK cS0 cS1 cS2 ltS cA0 cA1 cA2 ltA cB0 cB1 cB2 ltB
    replace CX := Lib.hid (CX.out.after hb20)
    replace CY := Lib.hid (CY.out.after hb20)
    replace CZ := Lib.hid (CZ.out.after hb20)
    replace CP := Lib.hid (CP.out.after hb20)
    replace CR := Lib.hid (CR.out.after hb20)
    replace CK := Lib.hid (CK.out.after hb20)
    replace CS := Lib.hid (CS.out.after hb20)
    replace CA := Lib.hid (CA.out.after hb20)
    replace CB := Lib.hid (CB.out.after hb20)
    replace FX := Lib.hid (FX.out.after hb20)
    replace FY := Lib.hid (FY.out.after hb20)
    replace FZ := Lib.hid (FZ.out.after hb20)
    replace FP := Lib.hid (FP.out.after hb20)
    replace FR := Lib.hid (FR.out.after hb20)
    replace FK := Lib.hid (FK.out.after hb20)
    replace FS := Lib.hid (FS.out.after hb20)
    replace FA := Lib.hid (FA.out.after hb20)
    replace FB := Lib.hid (FB.out.after hb20)
    replace HB := Lib.hid (HB.out.trans (hb20.mono HB.out.size))
    clear hb20
    have d_X_M : B3 < w20.heap.size := CX.out.lt
    have d_Y_M : B4 < w20.heap.size := CY.out.lt
    have d_Z_M : B5 < w20.heap.size := CZ.out.lt
    have d_P_M : w11.heap.size < w20.heap.size := CP.out.lt
    have d_R_M : w12.heap.size < w20.heap.size := CR.out.lt
    have d_K_M : w14.heap.size < w20.heap.size := CK.out.lt
    have d_S_M : w16.heap.size < w20.heap.size := CS.out.lt
    have d_A_M : w17.heap.size < w20.heap.size := CA.out.lt
    have d_B_M : w18.heap.size < w20.heap.size := CB.out.lt
    have g_M : w.heap.size ≤ w20.heap.size := by have := HB.out.size; omega
    obtain ⟨cX0, cX1, cX2⟩ := CX.out.cells3
    have ltX := CX.out.lt
    obtain ⟨cY0, cY1, cY2⟩ := CY.out.cells3
    have ltY := CY.out.lt
    obtain ⟨cZ0, cZ1, cZ2⟩ := CZ.out.cells3
    have ltZ := CZ.out.lt
    obtain ⟨cP0, cP1, cP2⟩ := CP.out.cells3
    have ltP := CP.out.lt
    obtain ⟨cR0, cR1, cR2⟩ := CR.out.cells3
    have ltR := CR.out.lt
    obtain ⟨cK0, cK1, cK2⟩ := CK.out.cells3
    have ltK := CK.out.lt
    obtain ⟨cS0, cS1, cS2⟩ := CS.out.cells3
    have ltS := CS.out.lt
    obtain ⟨cA0, cA1, cA2⟩ := CA.out.cells3
    have ltA := CA.out.lt
    obtain ⟨cB0, cB1, cB2⟩ := CB.out.cells3
    have ltB := CB.out.lt
    go_wp2_with fail
    refine (Mul_c _ _ _ _ _ (FY.out.alloc _) (FX.out.alloc _)).mono ?_
    rw [H7.out]
    rintro e w21 ⟨v, rfl, hv, hb21⟩
    have hv : IsF _ v (Q4) := hv
    obtain ⟨va, vb, rfl, h1, h2⟩ := hv
    obtain ⟨pN, mN, rfl, _, _⟩ := h1.shape
    obtain ⟨qN, nN, rfl, _, _⟩ := h2.shape
    have FN := Lib.hid (IsF.at_ h1 h2)
    clear h1 h2
    clear cX0 cX1 cX2 ltX cY0 cY1 cY2 ltY cZ0 cZ1 cZ2 ltZ cP0 cP1 cP2 ltP cR0 cR1 cR2 ltR cK0 cK1 cK2 ltK cS0 cS1 cS2 ltS cA0 cA1 cA2 ltA cB0 cB1 cB2 ltB
    obtain ⟨hb21, CM⟩ := after_new hb21
    replace CM := Lib.hid CM
    replace CX := Lib.hid (CX.out.after hb21)
    replace CY := Lib.hid (CY.out.after hb21)
    replace CZ := Lib.hid (CZ.out.after hb21)
    replace CP := Lib.hid (CP.out.after hb21)
    replace CR := Lib.hid (CR.out.after hb21)
    replace CK := Lib.hid (CK.out.after hb21)
    replace CS := Lib.hid (CS.out.after hb21)
    replace CA := Lib.hid (CA.out.after hb21)
    replace CB := Lib.hid (CB.out.after hb21)
    replace FX := Lib.hid (FX.out.after hb21)
    replace FY := Lib.hid (FY.out.after hb21)
    replace FZ := Lib.hid (FZ.out.after hb21)
    replace FP := Lib.hid (FP.out.after hb21)
    replace FR := Lib.hid (FR.out.after hb21)
    replace FK := Lib.hid (FK.out.after hb21)
    replace FS := Lib.hid (FS.out.after hb21)
    replace FA := Lib.hid (FA.out.after hb21)
    replace FB := Lib.hid (FB.out.after hb21)
    replace FM := Lib.hid (FM.out.after hb21)
    replace HB := Lib.hid (HB.out.trans (hb21.mono HB.out.size))
    clear hb21
    have d_X_N : B3 < w21.heap.size := CX.out.lt
    have d_Y_N : B4 < w21.heap.size := CY.out.lt
    have d_Z_N : B5 < w21.heap.size := CZ.out.lt
    have d_P_N : w11.heap.size < w21.heap.size := CP.out.lt
    have d_R_N : w12.heap.size < w21.heap.size := CR.out.lt
    have d_K_N : w14.heap.size < w21.heap.size := CK.out.lt
    have d_S_N : w16.heap.size < w21.heap.size := CS.out.lt
    have d_A_N : w17.heap.size < w21.heap.size := CA.out.lt
    have d_B_N : w18.heap.size < w21.heap.size := CB.out.lt
    have d_M_N : w20.heap.size < w21.heap.size := CM.out.lt
    have g_N : w.heap.size ≤ w21.heap.size := by have := HB.out.size; omega
    obtain ⟨cX0, cX1, cX2⟩ := CX.out.cells3
    have ltX := CX.out.lt
    obtain ⟨cY0, cY1, cY2⟩ := CY.out.cells3
    have ltY := CY.out.lt
    obtain ⟨cZ0, cZ1, cZ2⟩ := CZ.out.cells3
    have ltZ := CZ.out.lt
    obtain ⟨cP0, cP1, cP2⟩ := CP.out.cells3
    have ltP := CP.out.lt
    obtain ⟨cR0, cR1, cR2⟩ := CR.out.cells3
    have ltR := CR.out.lt
    obtain ⟨cK0, cK1, cK2⟩ := CK.out.cells3
    have ltK := CK.out.lt
    obtain ⟨cS0, cS1, cS2⟩ := CS.out.cells3
    have ltS := CS.out.lt
    obtain ⟨cA0, cA1, cA2⟩ := CA.out.cells3
    have ltA := CA.out.lt
    obtain ⟨cB0, cB1, cB2⟩ := CB.out.cells3
    have ltB := CB.out.lt
    obtain ⟨cM0, cM1, cM2⟩ := CM.out.cells3
    have ltM := CM.out.lt
    go_wp2_with fail
    refine (equal_c _ _ _ Q4 (FM.out.alloc _) (FN.out.alloc _)).mono ?_
    rintro e w22 ⟨rfl, hb22⟩
    clear cX0 cX1 cX2 ltX cY0 cY1 cY2 ltY cZ0 cZ1 cZ2 ltZ cP0 cP1 cP2 ltP cR0 cR1 cR2 ltR cK0 cK1 cK2 ltK cS0 cS1 cS2 ltS cA0 cA1 cA2 ltA cB0 cB1 cB2 ltB cM0 cM1 cM2 ltM
    obtain ⟨hb22, CN⟩ := after_new hb22
    replace CN := Lib.hid CN
    replace CX := Lib.hid (CX.out.after hb22)
    replace CY := Lib.hid (CY.out.after hb22)
    replace CZ := Lib.hid (CZ.out.after hb22)
    replace CP := Lib.hid (CP.out.after hb22)
    replace CR := Lib.hid (CR.out.after hb22)
    replace CK := Lib.hid (CK.out.after hb22)
    replace CS := Lib.hid (CS.out.after hb22)
    replace CA := Lib.hid (CA.out.after hb22)
    replace CB := Lib.hid (CB.out.after hb22)
    replace CM := Lib.hid (CM.out.after hb22)
    replace FX := Lib.hid (FX.out.after hb22)
    replace FY := Lib.hid (FY.out.after hb22)
    replace FZ := Lib.hid (FZ.out.after hb22)
    replace FP := Lib.hid (FP.out.after hb22)
    replace FR := Lib.hid (FR.out.after hb22)
    replace FK := Lib.hid (FK.out.after hb22)
    replace FS := Lib.hid (FS.out.after hb22)
    replace FA := Lib.hid (FA.out.after hb22)
    replace FB := Lib.hid (FB.out.after hb22)
    replace FM := Lib.hid (FM.out.after hb22)
    replace FN := Lib.hid (FN.out.after hb22)
    replace HB := Lib.hid (HB.out.trans (hb22.mono HB.out.size))
    clear hb22
    obtain ⟨cX0, cX1, cX2⟩ := CX.out.cells3
    have ltX := CX.out.lt
    obtain ⟨cY0, cY1, cY2⟩ := CY.out.cells3
    have ltY := CY.out.lt
    obtain ⟨cZ0, cZ1, cZ2⟩ := CZ.out.cells3
    have ltZ := CZ.out.lt
    obtain ⟨cP0, cP1, cP2⟩ := CP.out.cells3
    have ltP := CP.out.lt
    obtain ⟨cR0, cR1, cR2⟩ := CR.out.cells3
    have ltR := CR.out.lt
    obtain ⟨cK0, cK1, cK2⟩ := CK.out.cells3
    have ltK := CK.out.lt
    obtain ⟨cS0, cS1, cS2⟩ := CS.out.cells3
    have ltS := CS.out.lt
    obtain ⟨cA0, cA1, cA2⟩ := CA.out.cells3
    have ltA := CA.out.lt
    obtain ⟨cB0, cB1, cB2⟩ := CB.out.cells3
    have ltB := CB.out.lt
    obtain ⟨cM0, cM1, cM2⟩ := CM.out.cells3
    have ltM := CM.out.lt
    obtain ⟨cN0, cN1, cN2⟩ := CN.out.cells3
    have ltN := CN.out.lt
    go_wp2_with fail
    refine (Mul_c _ _ _ _ _ FX.out FZ.out).mono ?_
    rw [H8.out]
    rintro e w23 ⟨v, rfl, hv, hb23⟩
    have hv : IsF _ v (P5) := hv
    obtain ⟨va, vb, rfl, h1, h2⟩ := hv
    obtain ⟨pT, mT, rfl, _, _⟩ := h1.shape
    obtain ⟨qT, nT, rfl, _, _⟩ := h2.shape
    have FT := Lib.hid (IsF.at_ h1 h2)
    clear h1 h2
    clear cX0 cX1 cX2 ltX cY0 cY1 cY2 ltY cZ0 cZ1 cZ2 ltZ cP0 cP1 cP2 ltP cR0 cR1 cR2 ltR cK0 cK1 cK2 ltK cS0 cS1 cS2 ltS cA0 cA1 cA2 ltA cB0 cB1 cB2 ltB cM0 cM1 cM2 ltM cN0 cN1 cN2 ltN
    replace CX := Lib.hid (CX.out.after hb23)
    replace CY := Lib.hid (CY.out.after hb23)
    replace CZ := Lib.hid (CZ.out.after hb23)
    replace CP := Lib.hid (CP.out.after hb23)
    replace CR := Lib.hid (CR.out.after hb23)
    replace CK := Lib.hid (CK.out.after hb23)
    replace CS := Lib.hid (CS.out.after hb23)
    replace CA := Lib.hid (CA.out.after hb23)
    replace CB := Lib.hid (CB.out.after hb23)
    replace CM := Lib.hid (CM.out.after hb23)
    replace CN := Lib.hid (CN.out.after hb23)
    replace FX := Lib.hid (FX.out.after hb23)
    replace FY := Lib.hid (FY.out.after hb23)
    replace FZ := Lib.hid (FZ.out.after hb23)
    replace FP := Lib.hid (FP.out.after hb23)
    replace FR := Lib.hid (FR.out.after hb23)
    replace FK := Lib.hid (FK.out.after hb23)
    replace FS := Lib.hid (FS.out.after hb23)
    replace FA := Lib.hid (FA.out.after hb23)
    replace FB := Lib.hid (FB.out.after hb23)
    replace FM := Lib.hid (FM.out.after hb23)
    replace FN := Lib.hid (FN.out.after hb23)
    replace HB := Lib.hid (HB.out.trans (hb23.mono HB.out.size))
    clear hb23
    have d_X_T : B3 < w23.heap.size := CX.out.lt
    have d_Y_T : B4 < w23.heap.size := CY.out.lt
    have d_Z_T : B5 < w23.heap.size := CZ.out.lt
    have d_P_T : w11.heap.size < w23.heap.size := CP.out.lt
    have d_R_T : w12.heap.size < w23.heap.size := CR.out.lt
    have d_K_T : w14.heap.size < w23.heap.size := CK.out.lt
    have d_S_T : w16.heap.size < w23.heap.size := CS.out.lt
    have d_A_T : w17.heap.size < w23.heap.size := CA.out.lt
    have d_B_T : w18.heap.size < w23.heap.size := CB.out.lt
    have d_M_T : w20.heap.size < w23.heap.size := CM.out.lt
    have d_N_T : w21.heap.size < w23.heap.size := CN.out.lt
    have g_T : w.heap.size ≤ w23.heap.size := by have := HB.out.size; omega
    obtain ⟨cX0, cX1, cX2⟩ := CX.out.cells3
    have ltX := CX.out.lt
    obtain ⟨cY0, cY1, cY2⟩ := CY.out.cells3
    have ltY := CY.out.lt
    obtain ⟨cZ0, cZ1, cZ2⟩ := CZ.out.cells3
    have ltZ := CZ.out.lt
    obtain ⟨cP0, cP1, cP2⟩ := CP.out.cells3
    have ltP := CP.out.lt
    obtain ⟨cR0, cR1, cR2⟩ := CR.out.cells3
    have ltR := CR.out.lt
    obtain ⟨cK0, cK1, cK2⟩ := CK.out.cells3
    have ltK := CK.out.lt
    obtain ⟨cS0, cS1, cS2⟩ := CS.out.cells3
    have ltS := CS.out.lt
    obtain ⟨cA0, cA1, cA2⟩ := CA.out.cells3
    have ltA := CA.out.lt
    obtain ⟨cB0, cB1, cB2⟩ := CB.out.cells3
    have ltB := CB.out.lt
    obtain ⟨cM0, cM1, cM2⟩ := CM.out.cells3
    have ltM := CM.out.lt
    obtain ⟨cN0, cN1, cN2⟩ := CN.out.cells3
    have ltN := CN.out.lt
    go_wp2_with fail
    refine (Add_c _ _ _ _ _ (FM.out.alloc _) (FT.out.alloc _)).mono ?_
    rw [H9.out]
    rintro e w24 ⟨v, rfl, hv, hb24⟩
    have hv : IsF _ v (Q6) := hv
    obtain ⟨va, vb, rfl, h1, h2⟩ := hv
    obtain ⟨pA2, mA2, rfl, _, _⟩ := h1.shape
    obtain ⟨qA2, nA2, rfl, _, _⟩ := h2.shape
    have FA2 := Lib.hid (IsF.at_ h1 h2)
    clear h1 h2
    clear cX0 cX1 cX2 ltX cY0 cY1 cY2 ltY cZ0 cZ1 cZ2 ltZ cP0 cP1 cP2 ltP cR0 cR1 cR2 ltR cK0 cK1 cK2 ltK cS0 cS1 cS2 ltS cA0 cA1 cA2 ltA cB0 cB1 cB2 ltB cM0 cM1 cM2 ltM cN0 cN1 cN2 ltN
    obtain ⟨hb24, CT⟩ := after_new hb24
    replace CT := Lib.hid CT
    replace CX := Lib.hid (CX.out.after hb24)
    replace CY := Lib.hid (CY.out.after hb24)
    replace CZ := Lib.hid (CZ.out.after hb24)
    replace CP := Lib.hid (CP.out.after hb24)
    replace CR := Lib.hid (CR.out.after hb24)
    replace CK := Lib.hid (CK.out.after hb24)
    replace CS := Lib.hid (CS.out.after hb24)
    replace CA := Lib.hid (CA.out.after hb24)
    replace CB := Lib.hid (CB.out.after hb24)
    replace CM := Lib.hid (CM.out.after hb24)
    replace CN := Lib.hid (CN.out.after hb24)
    replace FX := Lib.hid (FX.out.after hb24)
    replace FY := Lib.hid (FY.out.after hb24)
    replace FZ := Lib.hid (FZ.out.after hb24)
    replace FP := Lib.hid (FP.out.after hb24)
    replace FR := Lib.hid (FR.out.after hb24)
    replace FK := Lib.hid (FK.out.after hb24)
    replace FS := Lib.hid (FS.out.after hb24)
    replace FA := Lib.hid (FA.out.after hb24)
    replace FB := Lib.hid (FB.out.after hb24)
    replace FM := Lib.hid (FM.out.after hb24)
    replace FN := Lib.hid (FN.out.after hb24)
    replace FT := Lib.hid (FT.out.after hb24)
    replace HB := Lib.hid (HB.out.trans (hb24.mono HB.out.size))
    clear hb24
    obtain ⟨cX0, cX1, cX2⟩ := CX.out.cells3
    have ltX := CX.out.lt
    obtain ⟨cY0, cY1, cY2⟩ := CY.out.cells3
    have ltY := CY.out.lt
    obtain ⟨cZ0, cZ1, cZ2⟩ := CZ.out.cells3
    have ltZ := CZ.out.lt
    obtain ⟨cP0, cP1, cP2⟩ := CP.out.cells3
    have ltP := CP.out.lt
    obtain ⟨cR0, cR1, cR2⟩ := CR.out.cells3
    have ltR := CR.out.lt
    obtain ⟨cK0, cK1, cK2⟩ := CK.out.cells3
    have ltK := CK.out.lt
    obtain ⟨cS0, cS1, cS2⟩ := CS.out.cells3
    have ltS := CS.out.lt
    obtain ⟨cA0, cA1, cA2⟩ := CA.out.cells3
    have ltA := CA.out.lt
    have zA0 := CA.out.frozen 0
    have zA1 := CA.out.frozen 1
    have zA2 := CA.out.frozen 2
    obtain ⟨cB0, cB1, cB2⟩ := CB.out.cells3
    have ltB := CB.out.lt
    obtain ⟨cM0, cM1, cM2⟩ := CM.out.cells3
    have ltM := CM.out.lt
    obtain ⟨cN0, cN1, cN2⟩ := CN.out.cells3
    have ltN := CN.out.lt
    obtain ⟨cT0, cT1, cT2⟩ := CT.out.cells3
    have ltT := CT.out.lt
    go_wp2_with fail
    refine (Mul_c _ _ _ _ _ (FX.out.set3 CA.out (fun _ h => by cases h) (fun _ h => by cases h) (fun _ h => by cases h) _ _ _) (FS.out.set3 CA.out (fun _ h => by cases h) (fun _ h => by cases h) (fun _ h => by cases h) _ _ _)).mono ?_
    rw [H10.out]
    rintro e w25 ⟨v, rfl, hv, hb25⟩
    have hv : IsF _ v (Q6) := hv
    obtain ⟨va, vb, rfl, h1, h2⟩ := hv
    obtain ⟨pB2, mB2, rfl, _, _⟩ := h1.shape
    obtain ⟨qB2, nB2, rfl, _, _⟩ := h2.shape
    have FB2 := Lib.hid (IsF.at_ h1 h2)
    clear h1 h2
    clear cX0 cX1 cX2 ltX cY0 cY1 cY2 ltY cZ0 cZ1 cZ2 ltZ cP0 cP1 cP2 ltP cR0 cR1 cR2 ltR cK0 cK1 cK2 ltK cS0 cS1 cS2 ltS cA0 cA1 cA2 ltA zA0 zA1 zA2 cB0 cB1 cB2 ltB cM0 cM1 cM2 ltM cN0 cN1 cN2 ltN cT0 cT1 cT2 ltT
    obtain ⟨KB, KS, KW, NC⟩ := after_set CA.out (fun _ h => by cases h) (fun _ h => by cases h) (fun _ h => by cases h) hb25
    replace CX := Lib.hid (KB _ _ _ (by omega) CX.out)
    replace CY := Lib.hid (KB _ _ _ (by omega) CY.out)
    replace CZ := Lib.hid (KB _ _ _ (by omega) CZ.out)
    replace CP := Lib.hid (KB _ _ _ (by omega) CP.out)
    replace CR := Lib.hid (KB _ _ _ (by omega) CR.out)
    replace CK := Lib.hid (KB _ _ _ (by omega) CK.out)
    replace CS := Lib.hid (KB _ _ _ (by omega) CS.out)
    replace CB := Lib.hid (KB _ _ _ (by omega) CB.out)
    replace CM := Lib.hid (KB _ _ _ (by omega) CM.out)
    replace CN := Lib.hid (KB _ _ _ (by omega) CN.out)
    replace CT := Lib.hid (KB _ _ _ (by omega) CT.out)
    replace CA := Lib.hid NC
    replace FX := Lib.hid (FX.out.via KS)
    replace FY := Lib.hid (FY.out.via KS)
    replace FZ := Lib.hid (FZ.out.via KS)
    replace FP := Lib.hid (FP.out.via KS)
    replace FR := Lib.hid (FR.out.via KS)
    replace FK := Lib.hid (FK.out.via KS)
    replace FS := Lib.hid (FS.out.via KS)
    replace FA := Lib.hid (FA.out.via KS)
    replace FB := Lib.hid (FB.out.via KS)
    replace FM := Lib.hid (FM.out.via KS)
    replace FN := Lib.hid (FN.out.via KS)
    replace FT := Lib.hid (FT.out.via KS)
    replace FA2 := Lib.hid (FA2.out.via KS)
    replace HB := Lib.hid (KW _ _ HB.out (by omega))
    clear KB KS KW NC hb25
    obtain ⟨cX0, cX1, cX2⟩ := CX.out.cells3
    have ltX := CX.out.lt
    obtain ⟨cY0, cY1, cY2⟩ := CY.out.cells3
    have ltY := CY.out.lt
    obtain ⟨cZ0, cZ1, cZ2⟩ := CZ.out.cells3
    have ltZ := CZ.out.lt
    obtain ⟨cP0, cP1, cP2⟩ := CP.out.cells3
    have ltP := CP.out.lt
    obtain ⟨cR0, cR1, cR2⟩ := CR.out.cells3
    have ltR := CR.out.lt
    obtain ⟨cK0, cK1, cK2⟩ := CK.out.cells3
    have ltK := CK.out.lt
    obtain ⟨cS0, cS1, cS2⟩ := CS.out.cells3
    have ltS := CS.out.lt
    obtain ⟨cA0, cA1, cA2⟩ := CA.out.cells3
    have ltA := CA.out.lt
    obtain ⟨cB0, cB1, cB2⟩ := CB.out.cells3
    have ltB := CB.out.lt
    have zB0 := CB.out.frozen 0
    have zB1 := CB.out.frozen 1
    have zB2 := CB.out.frozen 2
    obtain ⟨cM0, cM1, cM2⟩ := CM.out.cells3
    have ltM := CM.out.lt
    obtain ⟨cN0, cN1, cN2⟩ := CN.out.cells3
    have ltN := CN.out.lt
    obtain ⟨cT0, cT1, cT2⟩ := CT.out.cells3
    have ltT := CT.out.lt
    go_wp2_with fail
    refine (equal_c _ _ _ Q6 (FA2.out.set3 CB.out (fun _ h => by cases h) (fun _ h => by cases h) (fun _ h => by cases h) _ _ _) (FB2.out.set3 CB.out (fun _ h => by cases h) (fun _ h => by cases h) (fun _ h => by cases h) _ _ _)).mono ?_
    rintro e w26 ⟨rfl, hb26⟩
    clear cX0 cX1 cX2 ltX cY0 cY1 cY2 ltY cZ0 cZ1 cZ2 ltZ cP0 cP1 cP2 ltP cR0 cR1 cR2 ltR cK0 cK1 cK2 ltK cS0 cS1 cS2 ltS cA0 cA1 cA2 ltA cB0 cB1 cB2 ltB zB0 zB1 zB2 cM0 cM1 cM2 ltM cN0 cN1 cN2 ltN cT0 cT1 cT2 ltT
    obtain ⟨KB, KS, KW, NC⟩ := after_set CB.out (fun _ h => by cases h) (fun _ h => by cases h) (fun _ h => by cases h) hb26
    replace CX := Lib.hid (KB _ _ _ (by omega) CX.out)
    replace CY := Lib.hid (KB _ _ _ (by omega) CY.out)
    replace CZ := Lib.hid (KB _ _ _ (by omega) CZ.out)
    replace CP := Lib.hid (KB _ _ _ (by omega) CP.out)
    replace CR := Lib.hid (KB _ _ _ (by omega) CR.out)
    replace CK := Lib.hid (KB _ _ _ (by omega) CK.out)
    replace CS := Lib.hid (KB _ _ _ (by omega) CS.out)
    replace CA := Lib.hid (KB _ _ _ (by omega) CA.out)
    replace CM := Lib.hid (KB _ _ _ (by omega) CM.out)
    replace CN := Lib.hid (KB _ _ _ (by omega) CN.out)
    replace CT := Lib.hid (KB _ _ _ (by omega) CT.out)
    replace CB := Lib.hid NC
    replace FX := Lib.hid (FX.out.via KS)
    replace FY := Lib.hid (FY.out.via KS)
    replace FZ := Lib.hid (FZ.out.via KS)
    replace FP := Lib.hid (FP.out.via KS)
    replace FR := Lib.hid (FR.out.via KS)
    replace FK := Lib.hid (FK.out.via KS)
    replace FS := Lib.hid (FS.out.via KS)
    replace FA := Lib.hid (FA.out.via KS)
    replace FB := Lib.hid (FB.out.via KS)
    replace FM := Lib.hid (FM.out.via KS)
    replace FN := Lib.hid (FN.out.via KS)
    replace FT := Lib.hid (FT.out.via KS)
    replace FA2 := Lib.hid (FA2.out.via KS)
    replace FB2 := Lib.hid (FB2.out.via KS)
    replace HB := Lib.hid (KW _ _ HB.out (by omega))
    clear KB KS KW NC hb26
    rcases HDV.out with ⟨hy, hdv⟩ | ⟨hy, hdv⟩
    · have HD := Lib.hid hdv
      clear hdv
      obtain ⟨cX0, cX1, cX2⟩ := CX.out.cells3
      have ltX := CX.out.lt
      obtain ⟨cY0, cY1, cY2⟩ := CY.out.cells3
      have ltY := CY.out.lt
      obtain ⟨cZ0, cZ1, cZ2⟩ := CZ.out.cells3
      have ltZ := CZ.out.lt
      obtain ⟨cP0, cP1, cP2⟩ := CP.out.cells3
      have ltP := CP.out.lt
      obtain ⟨cR0, cR1, cR2⟩ := CR.out.cells3
      have ltR := CR.out.lt
      obtain ⟨cK0, cK1, cK2⟩ := CK.out.cells3
      have ltK := CK.out.lt
      obtain ⟨cS0, cS1, cS2⟩ := CS.out.cells3
      have ltS := CS.out.lt
      obtain ⟨cA0, cA1, cA2⟩ := CA.out.cells3
      have ltA := CA.out.lt
      obtain ⟨cB0, cB1, cB2⟩ := CB.out.cells3
      have ltB := CB.out.lt
      obtain ⟨cM0, cM1, cM2⟩ := CM.out.cells3
      have ltM := CM.out.lt
      obtain ⟨cN0, cN1, cN2⟩ := CN.out.cells3
      have ltN := CN.out.lt
      obtain ⟨cT0, cT1, cT2⟩ := CT.out.cells3
      have ltT := CT.out.lt
      go_wp2_with fail
      refine (Div_c _ _ _ _ _ FM.out FY.out).mono ?_
      rw [HD.out]
      rintro e w27 ⟨v, rfl, hv, hb27⟩
      have hv : IsF _ v (F0) := hv
      obtain ⟨va, vb, rfl, h1, h2⟩ := hv
      obtain ⟨pK2, mK2, rfl, _, _⟩ := h1.shape
      obtain ⟨qK2, nK2, rfl, _, _⟩ := h2.shape
      have FK2 := Lib.hid (IsF.at_ h1 h2)
      clear h1 h2
      clear cX0 cX1 cX2 ltX cY0 cY1 cY2 ltY cZ0 cZ1 cZ2 ltZ cP0 cP1 cP2 ltP cR0 cR1 cR2 ltR cK0 cK1 cK2 ltK cS0 cS1 cS2 ltS cA0 cA1 cA2 ltA cB0 cB1 cB2 ltB cM0 cM1 cM2 ltM cN0 cN1 cN2 ltN cT0 cT1 cT2 ltT
      replace CX := Lib.hid (CX.out.after hb27)
      replace CY := Lib.hid (CY.out.after hb27)
      replace CZ := Lib.hid (CZ.out.after hb27)
      replace CP := Lib.hid (CP.out.after hb27)
      replace CR := Lib.hid (CR.out.after hb27)
      replace CK := Lib.hid (CK.out.after hb27)
      replace CS := Lib.hid (CS.out.after hb27)
      replace CA := Lib.hid (CA.out.after hb27)
      replace CB := Lib.hid (CB.out.after hb27)
      replace CM := Lib.hid (CM.out.after hb27)
      replace CN := Lib.hid (CN.out.after hb27)
      replace CT := Lib.hid (CT.out.after hb27)
      replace FX := Lib.hid (FX.out.after hb27)
      replace FY := Lib.hid (FY.out.after hb27)
      replace FZ := Lib.hid (FZ.out.after hb27)
      replace FP := Lib.hid (FP.out.after hb27)
      replace FR := Lib.hid (FR.out.after hb27)
      replace FK := Lib.hid (FK.out.after hb27)
      replace FS := Lib.hid (FS.out.after hb27)
      replace FA := Lib.hid (FA.out.after hb27)
      replace FB := Lib.hid (FB.out.after hb27)
      replace FM := Lib.hid (FM.out.after hb27)
      replace FN := Lib.hid (FN.out.after hb27)
      replace FT := Lib.hid (FT.out.after hb27)
      replace FA2 := Lib.hid (FA2.out.after hb27)
      replace FB2 := Lib.hid (FB2.out.after hb27)
      replace HB := Lib.hid (HB.out.trans (hb27.mono HB.out.size))
      clear hb27
      obtain ⟨cX0, cX1, cX2⟩ := CX.out.cells3
      have ltX := CX.out.lt
      obtain ⟨cY0, cY1, cY2⟩ := CY.out.cells3
      have ltY := CY.out.lt
      obtain ⟨cZ0, cZ1, cZ2⟩ := CZ.out.cells3
      have ltZ := CZ.out.lt
      obtain ⟨cP0, cP1, cP2⟩ := CP.out.cells3
      have ltP := CP.out.lt
      obtain ⟨cR0, cR1, cR2⟩ := CR.out.cells3
      have ltR := CR.out.lt
      obtain ⟨cK0, cK1, cK2⟩ := CK.out.cells3
      have ltK := CK.out.lt
      have zK0 := CK.out.frozen 0
      have zK1 := CK.out.frozen 1
      have zK2 := CK.out.frozen 2
      obtain ⟨cS0, cS1, cS2⟩ := CS.out.cells3
      have ltS := CS.out.lt
      obtain ⟨cA0, cA1, cA2⟩ := CA.out.cells3
      have ltA := CA.out.lt
      obtain ⟨cB0, cB1, cB2⟩ := CB.out.cells3
      have ltB := CB.out.lt
      obtain ⟨cM0, cM1, cM2⟩ := CM.out.cells3
      have ltM := CM.out.lt
      obtain ⟨cN0, cN1, cN2⟩ := CN.out.cells3
      have ltN := CN.out.lt
      obtain ⟨cT0, cT1, cT2⟩ := CT.out.cells3
      have ltT := CT.out.lt
      go_wp2_with fail
      refine (rworks_c _).mono ?_
      rintro e w28 ⟨rfl, hb28⟩
      clear cX0 cX1 cX2 ltX cY0 cY1 cY2 ltY cZ0 cZ1 cZ2 ltZ cP0 cP1 cP2 ltP cR0 cR1 cR2 ltR cK0 cK1 cK2 ltK zK0 zK1 zK2 cS0 cS1 cS2 ltS cA0 cA1 cA2 ltA cB0 cB1 cB2 ltB cM0 cM1 cM2 ltM cN0 cN1 cN2 ltN cT0 cT1 cT2 ltT
      obtain ⟨KB, KS, KW, NC⟩ := after_set CK.out (fun _ h => by cases h) (fun _ h => by cases h) (fun _ h => by cases h) hb28
      replace CX := Lib.hid (KB _ _ _ (by omega) CX.out)
      replace CY := Lib.hid (KB _ _ _ (by omega) CY.out)
      replace CZ := Lib.hid (KB _ _ _ (by omega) CZ.out)
      replace CP := Lib.hid (KB _ _ _ (by omega) CP.out)
      replace CR := Lib.hid (KB _ _ _ (by omega) CR.out)
      replace CS := Lib.hid (KB _ _ _ (by omega) CS.out)
      replace CA := Lib.hid (KB _ _ _ (by omega) CA.out)
      replace CB := Lib.hid (KB _ _ _ (by omega) CB.out)
      replace CM := Lib.hid (KB _ _ _ (by omega) CM.out)
      replace CN := Lib.hid (KB _ _ _ (by omega) CN.out)
      replace CT := Lib.hid (KB _ _ _ (by omega) CT.out)
      replace CK := Lib.hid NC
      replace FX := Lib.hid (FX.out.via KS)
      replace FY := Lib.hid (FY.out.via KS)
      replace FZ := Lib.hid (FZ.out.via KS)
      replace FP := Lib.hid (FP.out.via KS)
      replace FR := Lib.hid (FR.out.via KS)
      replace FK := Lib.hid (FK.out.via KS)
      replace FS := Lib.hid (FS.out.via KS)
      replace FA := Lib.hid (FA.out.via KS)
      replace FB := Lib.hid (FB.out.via KS)
      replace FM := Lib.hid (FM.out.via KS)
      replace FN := Lib.hid (FN.out.via KS)
      replace FT := Lib.hid (FT.out.via KS)
      replace FA2 := Lib.hid (FA2.out.via KS)
      replace FB2 := Lib.hid (FB2.out.via KS)
      replace FK2 := Lib.hid (FK2.out.via KS)
      replace HB := Lib.hid (KW _ _ HB.out (by omega))
      clear KB KS KW NC hb28
      obtain ⟨cX0, cX1, cX2⟩ := CX.out.cells3
      have ltX := CX.out.lt
      obtain ⟨cY0, cY1, cY2⟩ := CY.out.cells3
      have ltY := CY.out.lt
      obtain ⟨cZ0, cZ1, cZ2⟩ := CZ.out.cells3
      have ltZ := CZ.out.lt
      obtain ⟨cP0, cP1, cP2⟩ := CP.out.cells3
      have ltP := CP.out.lt
      obtain ⟨cR0, cR1, cR2⟩ := CR.out.cells3
      have ltR := CR.out.lt
      obtain ⟨cK0, cK1, cK2⟩ := CK.out.cells3
      have ltK := CK.out.lt
      obtain ⟨cS0, cS1, cS2⟩ := CS.out.cells3
      have ltS := CS.out.lt
      obtain ⟨cA0, cA1, cA2⟩ := CA.out.cells3
      have ltA := CA.out.lt
      obtain ⟨cB0, cB1, cB2⟩ := CB.out.cells3
      have ltB := CB.out.lt
      obtain ⟨cM0, cM1, cM2⟩ := CM.out.cells3
      have ltM := CM.out.lt
      obtain ⟨cN0, cN1, cN2⟩ := CN.out.cells3
      have ltN := CN.out.lt
      obtain ⟨cT0, cT1, cT2⟩ := CT.out.cells3
      have ltT := CT.out.lt
      go_wp2_with fail
      go_ret
      exact ⟨rfl, HB.out⟩
    · have HD := Lib.hid hdv
      clear hdv
      obtain ⟨cX0, cX1, cX2⟩ := CX.out.cells3
      have ltX := CX.out.lt
      obtain ⟨cY0, cY1, cY2⟩ := CY.out.cells3
      have ltY := CY.out.lt
      obtain ⟨cZ0, cZ1, cZ2⟩ := CZ.out.cells3
      have ltZ := CZ.out.lt
      obtain ⟨cP0, cP1, cP2⟩ := CP.out.cells3
      have ltP := CP.out.lt
      obtain ⟨cR0, cR1, cR2⟩ := CR.out.cells3
      have ltR := CR.out.lt
      obtain ⟨cK0, cK1, cK2⟩ := CK.out.cells3
      have ltK := CK.out.lt
      obtain ⟨cS0, cS1, cS2⟩ := CS.out.cells3
      have ltS := CS.out.lt
      obtain ⟨cA0, cA1, cA2⟩ := CA.out.cells3
      have ltA := CA.out.lt
      obtain ⟨cB0, cB1, cB2⟩ := CB.out.cells3
      have ltB := CB.out.lt
      obtain ⟨cM0, cM1, cM2⟩ := CM.out.cells3
      have ltM := CM.out.lt
      obtain ⟨cN0, cN1, cN2⟩ := CN.out.cells3
      have ltN := CN.out.lt
      obtain ⟨cT0, cT1, cT2⟩ := CT.out.cells3
      have ltT := CT.out.lt
      go_wp2_with fail
      refine (Div_c _ _ _ _ _ FM.out FY.out).mono ?_
      rw [HD.out]
      rintro e w27 ⟨v, rfl, hv, hb27⟩
      have hv : IsF _ v (Q2) := hv
      obtain ⟨va, vb, rfl, h1, h2⟩ := hv
      obtain ⟨pK2, mK2, rfl, _, _⟩ := h1.shape
      obtain ⟨qK2, nK2, rfl, _, _⟩ := h2.shape
      have FK2 := Lib.hid (IsF.at_ h1 h2)
      clear h1 h2
      clear cX0 cX1 cX2 ltX cY0 cY1 cY2 ltY cZ0 cZ1 cZ2 ltZ cP0 cP1 cP2 ltP cR0 cR1 cR2 ltR cK0 cK1 cK2 ltK cS0 cS1 cS2 ltS cA0 cA1 cA2 ltA cB0 cB1 cB2 ltB cM0 cM1 cM2 ltM cN0 cN1 cN2 ltN cT0 cT1 cT2 ltT
      replace CX := Lib.hid (CX.out.after hb27)
      replace CY := Lib.hid (CY.out.after hb27)
      replace CZ := Lib.hid (CZ.out.after hb27)
      replace CP := Lib.hid (CP.out.after hb27)
      replace CR := Lib.hid (CR.out.after hb27)
      replace CK := Lib.hid (CK.out.after hb27)
      replace CS := Lib.hid (CS.out.after hb27)
      replace CA := Lib.hid (CA.out.after hb27)
      replace CB := Lib.hid (CB.out.after hb27)
      replace CM := Lib.hid (CM.out.after hb27)
      replace CN := Lib.hid (CN.out.after hb27)
      replace CT := Lib.hid (CT.out.after hb27)
      replace FX := Lib.hid (FX.out.after hb27)
      replace FY := Lib.hid (FY.out.after hb27)
      replace FZ := Lib.hid (FZ.out.after hb27)
      replace FP := Lib.hid (FP.out.after hb27)
      replace FR := Lib.hid (FR.out.after hb27)
      replace FK := Lib.hid (FK.out.after hb27)
      replace FS := Lib.hid (FS.out.after hb27)
      replace FA := Lib.hid (FA.out.after hb27)
      replace FB := Lib.hid (FB.out.after hb27)
      replace FM := Lib.hid (FM.out.after hb27)
      replace FN := Lib.hid (FN.out.after hb27)
      replace FT := Lib.hid (FT.out.after hb27)
      replace FA2 := Lib.hid (FA2.out.after hb27)
      replace FB2 := Lib.hid (FB2.out.after hb27)
      replace HB := Lib.hid (HB.out.trans (hb27.mono HB.out.size))
      clear hb27
      obtain ⟨cX0, cX1, cX2⟩ := CX.out.cells3
      have ltX := CX.out.lt
      obtain ⟨cY0, cY1, cY2⟩ := CY.out.cells3
      have ltY := CY.out.lt
      obtain ⟨cZ0, cZ1, cZ2⟩ := CZ.out.cells3
      have ltZ := CZ.out.lt
      obtain ⟨cP0, cP1, cP2⟩ := CP.out.cells3
      have ltP := CP.out.lt
      obtain ⟨cR0, cR1, cR2⟩ := CR.out.cells3
      have ltR := CR.out.lt
      obtain ⟨cK0, cK1, cK2⟩ := CK.out.cells3
      have ltK := CK.out.lt
      have zK0 := CK.out.frozen 0
      have zK1 := CK.out.frozen 1
      have zK2 := CK.out.frozen 2
      obtain ⟨cS0, cS1, cS2⟩ := CS.out.cells3
      have ltS := CS.out.lt
      obtain ⟨cA0, cA1, cA2⟩ := CA.out.cells3
      have ltA := CA.out.lt
      obtain ⟨cB0, cB1, cB2⟩ := CB.out.cells3
      have ltB := CB.out.lt
      obtain ⟨cM0, cM1, cM2⟩ := CM.out.cells3
      have ltM := CM.out.lt
      obtain ⟨cN0, cN1, cN2⟩ := CN.out.cells3
      have ltN := CN.out.lt
      obtain ⟨cT0, cT1, cT2⟩ := CT.out.cells3
      have ltT := CT.out.lt
      go_wp2_with fail
      refine (equal_c _ _ _ Q2 (FK2.out.set3 CK.out (fun _ h => by cases h) (fun _ h => by cases h) (fun _ h => by cases h) _ _ _) (FX.out.set3 CK.out (fun _ h => by cases h) (fun _ h => by cases h) (fun _ h => by cases h) _ _ _)).mono ?_
      rintro e w28 ⟨rfl, hb28⟩
      clear cX0 cX1 cX2 ltX cY0 cY1 cY2 ltY cZ0 cZ1 cZ2 ltZ cP0 cP1 cP2 ltP cR0 cR1 cR2 ltR cK0 cK1 cK2 ltK zK0 zK1 zK2 cS0 cS1 cS2 ltS cA0 cA1 cA2 ltA cB0 cB1 cB2 ltB cM0 cM1 cM2 ltM cN0 cN1 cN2 ltN cT0 cT1 cT2 ltT
      obtain ⟨KB, KS, KW, NC⟩ := after_set CK.out (fun _ h => by cases h) (fun _ h => by cases h) (fun _ h => by cases h) hb28
      replace CX := Lib.hid (KB _ _ _ (by omega) CX.out)
      replace CY := Lib.hid (KB _ _ _ (by omega) CY.out)
      replace CZ := Lib.hid (KB _ _ _ (by omega) CZ.out)
      replace CP := Lib.hid (KB _ _ _ (by omega) CP.out)
      replace CR := Lib.hid (KB _ _ _ (by omega) CR.out)
      replace CS := Lib.hid (KB _ _ _ (by omega) CS.out)
      replace CA := Lib.hid (KB _ _ _ (by omega) CA.out)
      replace CB := Lib.hid (KB _ _ _ (by omega) CB.out)
      replace CM := Lib.hid (KB _ _ _ (by omega) CM.out)
      replace CN := Lib.hid (KB _ _ _ (by omega) CN.out)
      replace CT := Lib.hid (KB _ _ _ (by omega) CT.out)
      replace CK := Lib.hid NC
      replace FX := Lib.hid (FX.out.via KS)
      replace FY := Lib.hid (FY.out.via KS)
      replace FZ := Lib.hid (FZ.out.via KS)
      replace FP := Lib.hid (FP.out.via KS)
      replace FR := Lib.hid (FR.out.via KS)
      replace FK := Lib.hid (FK.out.via KS)
      replace FS := Lib.hid (FS.out.via KS)
      replace FA := Lib.hid (FA.out.via KS)
      replace FB := Lib.hid (FB.out.via KS)
      replace FM := Lib.hid (FM.out.via KS)
      replace FN := Lib.hid (FN.out.via KS)
      replace FT := Lib.hid (FT.out.via KS)
      replace FA2 := Lib.hid (FA2.out.via KS)
      replace FB2 := Lib.hid (FB2.out.via KS)
      replace FK2 := Lib.hid (FK2.out.via KS)
      replace HB := Lib.hid (KW _ _ HB.out (by omega))
      clear KB KS KW NC hb28
      obtain ⟨cX0, cX1, cX2⟩ := CX.out.cells3
      have ltX := CX.out.lt
      obtain ⟨cY0, cY1, cY2⟩ := CY.out.cells3
      have ltY := CY.out.lt
      obtain ⟨cZ0, cZ1, cZ2⟩ := CZ.out.cells3
      have ltZ := CZ.out.lt
      obtain ⟨cP0, cP1, cP2⟩ := CP.out.cells3
      have ltP := CP.out.lt
      obtain ⟨cR0, cR1, cR2⟩ := CR.out.cells3
      have ltR := CR.out.lt
      obtain ⟨cK0, cK1, cK2⟩ := CK.out.cells3
      have ltK := CK.out.lt
      obtain ⟨cS0, cS1, cS2⟩ := CS.out.cells3
      have ltS := CS.out.lt
      obtain ⟨cA0, cA1, cA2⟩ := CA.out.cells3
      have ltA := CA.out.lt
      obtain ⟨cB0, cB1, cB2⟩ := CB.out.cells3
      have ltB := CB.out.lt
      obtain ⟨cM0, cM1, cM2⟩ := CM.out.cells3
      have ltM := CM.out.lt
      obtain ⟨cN0, cN1, cN2⟩ := CN.out.cells3
      have ltN := CN.out.lt
      obtain ⟨cT0, cT1, cT2⟩ := CT.out.cells3
      have ltT := CT.out.lt
      go_wp2_with fail
      refine (rworks_c _).mono ?_
      rintro e w29 ⟨rfl, hb29⟩
      clear cX0 cX1 cX2 ltX cY0 cY1 cY2 ltY cZ0 cZ1 cZ2 ltZ cP0 cP1 cP2 ltP cR0 cR1 cR2 ltR cK0 cK1 cK2 ltK cS0 cS1 cS2 ltS cA0 cA1 cA2 ltA cB0 cB1 cB2 ltB cM0 cM1 cM2 ltM cN0 cN1 cN2 ltN cT0 cT1 cT2 ltT
      replace CX := Lib.hid (CX.out.after hb29)
      replace CY := Lib.hid (CY.out.after hb29)
      replace CZ := Lib.hid (CZ.out.after hb29)
      replace CP := Lib.hid (CP.out.after hb29)
      replace CR := Lib.hid (CR.out.after hb29)
      replace CK := Lib.hid (CK.out.after hb29)
      replace CS := Lib.hid (CS.out.after hb29)
      replace CA := Lib.hid (CA.out.after hb29)
      replace CB := Lib.hid (CB.out.after hb29)
      replace CM := Lib.hid (CM.out.after hb29)
      replace CN := Lib.hid (CN.out.after hb29)
      replace CT := Lib.hid (CT.out.after hb29)
      replace FX := Lib.hid (FX.out.after hb29)
      replace FY := Lib.hid (FY.out.after hb29)
      replace FZ := Lib.hid (FZ.out.after hb29)
      replace FP := Lib.hid (FP.out.after hb29)
      replace FR := Lib.hid (FR.out.after hb29)
      replace FK := Lib.hid (FK.out.after hb29)
      replace FS := Lib.hid (FS.out.after hb29)
      replace FA := Lib.hid (FA.out.after hb29)
      replace FB := Lib.hid (FB.out.after hb29)
      replace FM := Lib.hid (FM.out.after hb29)
      replace FN := Lib.hid (FN.out.after hb29)
      replace FT := Lib.hid (FT.out.after hb29)
      replace FA2 := Lib.hid (FA2.out.after hb29)
      replace FB2 := Lib.hid (FB2.out.after hb29)
      replace FK2 := Lib.hid (FK2.out.after hb29)
      replace HB := Lib.hid (HB.out.trans (hb29.mono HB.out.size))
      clear hb29
      obtain ⟨cX0, cX1, cX2⟩ := CX.out.cells3
      have ltX := CX.out.lt
      obtain ⟨cY0, cY1, cY2⟩ := CY.out.cells3
      have ltY := CY.out.lt
      obtain ⟨cZ0, cZ1, cZ2⟩ := CZ.out.cells3
      have ltZ := CZ.out.lt
      obtain ⟨cP0, cP1, cP2⟩ := CP.out.cells3
      have ltP := CP.out.lt
      obtain ⟨cR0, cR1, cR2⟩ := CR.out.cells3
      have ltR := CR.out.lt
      obtain ⟨cK0, cK1, cK2⟩ := CK.out.cells3
      have ltK := CK.out.lt
      obtain ⟨cS0, cS1, cS2⟩ := CS.out.cells3
      have ltS := CS.out.lt
      obtain ⟨cA0, cA1, cA2⟩ := CA.out.cells3
      have ltA := CA.out.lt
      obtain ⟨cB0, cB1, cB2⟩ := CB.out.cells3
      have ltB := CB.out.lt
      obtain ⟨cM0, cM1, cM2⟩ := CM.out.cells3
      have ltM := CM.out.lt
      obtain ⟨cN0, cN1, cN2⟩ := CN.out.cells3
      have ltN := CN.out.lt
      obtain ⟨cT0, cT1, cT2⟩ := CT.out.cells3
      have ltT := CT.out.lt
      go_wp2_with fail
      go_ret
      exact ⟨rfl, HB.out⟩
end Go.Proofs.Ytaojdlcailpheaa
