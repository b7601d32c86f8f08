/- Walks of the reference: distance, closer. -/
import Derived.Test.YtaojdlcailpheaaQVS
import Derived.Test.YtaojdlcailpheaaQNq
set_option linter.unusedVariables false
namespace Go.Proofs.Ytaojdlcailpheaa
open Go.RowKit

theorem dist_len {s t : Bool} {a b c d k : Nat} (la : (limbs a).length ≤ k) (lb : (limbs b).length ≤ k) (lc : (limbs c).length ≤ k) (ld : (limbs d).length ≤ k) : (limbs (distN s a b t c d)).length ≤ 2 * k + 1 := by
  have h1 := limbs_mul_len a d
  have h2 := limbs_mul_len c b
  unfold distN
  split
  · exact Nat.le_trans (dif_len (k := 2 * k) (by omega) (by omega)) (by omega)
  · have h3 := limbs_add_len (a * d) (c * b)
    omega

set_option maxRecDepth 100000 in
set_option maxHeartbeats 4000000 in
theorem distance_c (w : World) (v u : Value) (s t : Bool) (a b c d : Nat) (h : IsF w v (fr s a b)) (k : IsF w u (fr t c d)) (la : (limbs a).length ≤ 1000) (lb : (limbs b).length ≤ 1000) (lc : (limbs c).length ≤ 1000) (ld : (limbs d).length ≤ 1000) :
    Calls Try.prog 111 #[v, u] w (RetDiv w (distN s a b t c d) (b * d)) := by
  obtain ⟨va, vb, rfl, h1, h2⟩ := h
  obtain ⟨vc, vd, rfl, h3, h4⟩ := k
  obtain ⟨pX, mX, rfl, _, _⟩ := h1.shape
  obtain ⟨qX, nX, rfl, _, _⟩ := h2.shape
  obtain ⟨pY, mY, rfl, _, _⟩ := h3.shape
  obtain ⟨qY, nY, rfl, _, _⟩ := h4.shape
  replace h1 : Sl w (.slice pX (limbs a).length mX) (limbs a) := h1
  replace h2 : Sl w (.slice qX (limbs b).length nX) (limbs b) := h2
  replace h3 : Sl w (.slice pY (limbs c).length mY) (limbs c) := h3
  replace h4 : Sl w (.slice qY (limbs d).length nY) (limbs d) := h4
  show Calls _ _ #[.agg #[.bool s, .slice pX (limbs a).length mX, .slice qX (limbs b).length nX], .agg #[.bool t, .slice pY (limbs c).length mY, .slice qY (limbs d).length nY]] w _
  obtain ⟨W0, hW, bx, by', hsz, hb0⟩ := start2 w #[.bool s, .slice pX (limbs a).length mX, .slice qX (limbs b).length nX] #[.bool t, .slice pY (limbs c).length mY, .slice qY (limbs d).length nY] 25
  have FXN := Lib.hid (h1.after hb0)
  have FXD := Lib.hid (h2.after hb0)
  have FYN := Lib.hid (h3.after hb0)
  have FYD := Lib.hid (h4.after hb0)
  have HB := Lib.hid hb0
  have CX := Lib.hid bx
  have CY := Lib.hid by'
  clear h1 h2 h3 h4 hb0 bx by' hsz
  have LA := Lib.hid la
  have LB := Lib.hid lb
  have LC := Lib.hid lc
  have LD := Lib.hid ld
  have L1 : Hid ((limbs (a * d)).length ≤ 2000) := by show _ ≤ _; have := limbs_mul_len a d; omega
  have L2 : Hid ((limbs (c * b)).length ≤ 2000) := by show _ ≤ _; have := limbs_mul_len c b; omega
  obtain ⟨R, hR⟩ : ∃ R, distN s a b t c d = R := ⟨_, rfl⟩
  rw [hR]
  clear la lb lc ld
  go_enter Try.func111, Try.ntmps111
  go_upto_region 1 with fail
  rw [← hW]
  clear hW
  refine wp_region_gj (J := GJ _ (fun _ => SK (fun κ => match κ with | 0 => .eq (.pointer (some ⟨w.heap.size, 1, none⟩)) | 1 => .eq (.slice pX (limbs a).length mX) | 2 => .eq (.pointer (some ⟨(w.heap.size + 1), 2, none⟩)) | 3 => .eq (.slice qY (limbs d).length nY) | 4 => .nat (a * d) | 5 => .eq (.pointer (some ⟨(w.heap.size + 1), 1, none⟩)) | 6 => .eq (.slice pY (limbs c).length mY) | 7 => .eq (.pointer (some ⟨w.heap.size, 2, none⟩)) | 8 => .eq (.slice qX (limbs b).length nX) | 9 => .nat (c * b) | 10 => .nat (a * d) | 11 => .nat (c * b) | _ => .any)) (fun _ _ w => Below W0.heap.size W0 w) _) (by kernel_rfl) ?_ ?_ (GJ.start (below_dr (Below.refl _ _)))
  · intro listed a w9 i hr hj
    obtain ⟨hi12, hun, _, _, _⟩ := ready_mem hr
    have h12 : i ∈ List.range 12 := List.mem_range.2 hi12
    simp only [List.range, List.range.loop, List.mem_cons, List.not_mem_nil, or_false] at h12
    obtain ⟨f, rfl, hcm, hf⟩ := hj.opened [8, 9, 10, 11, 12, 13, 14, 15, 16, 17, 6, 7] (by kernel_rfl)
    replace hcm : Below W0.heap.size W0 w9 := hcm
    rcases h12 with rfl | rfl | rfl | rfl | rfl | rfl | rfl | rfl | rfl | rfl | rfl | rfl
    · have klt := (CX.out.after hcm).lt
      refine GJ.op hj (by kernel_rfl) hr rfl [8, 9, 10, 11, 12, 13, 14, 15, 16, 17, 6, 7] (by kernel_rfl) (fun K hK => ?_)
      simp only [Act.put, List.foldl_cons, List.foldl_nil, List.setIfInBounds_toArray, List.set_cons_zero, List.set_cons_succ] at hK ⊢
      clear hj hf
      go_simp
      exact hK _ _ (fun k v _ _ h => h.keep (Below.refl _ _)) (fun t ht => SK.of (.eq (.pointer (some ⟨w.heap.size, 1, none⟩))) rfl rfl) (hcm.trans ((Below.refl _ _).mono hcm.size))
    · have e1 : f 8 = .pointer (some ⟨w.heap.size, 1, none⟩) := hf 0 _ _ rfl rfl (up_dep hr (by kernel_rfl))
      obtain ⟨k0, k1, k2⟩ := (CX.out.after hcm).cells3
      have klt := (CX.out.after hcm).lt
      refine GJ.op hj (by kernel_rfl) hr rfl [8, 9, 10, 11, 12, 13, 14, 15, 16, 17, 6, 7] (by kernel_rfl) (fun K hK => ?_)
      simp only [Act.put, List.foldl_cons, List.foldl_nil, List.setIfInBounds_toArray, List.set_cons_zero, List.set_cons_succ] at hK ⊢
      clear hj hf
      rw [e1] at hK ⊢
      clear e1
      go_simp
      exact hK _ _ (fun k v _ _ h => h.keep (Below.refl _ _)) (fun t ht => SK.of (.eq (.slice pX (limbs a).length mX)) rfl rfl) (hcm.trans ((Below.refl _ _).mono hcm.size))
    · have klt := (CY.out.after hcm).lt
      refine GJ.op hj (by kernel_rfl) hr rfl [8, 9, 10, 11, 12, 13, 14, 15, 16, 17, 6, 7] (by kernel_rfl) (fun K hK => ?_)
      simp only [Act.put, List.foldl_cons, List.foldl_nil, List.setIfInBounds_toArray, List.set_cons_zero, List.set_cons_succ] at hK ⊢
      clear hj hf
      go_simp
      exact hK _ _ (fun k v _ _ h => h.keep (Below.refl _ _)) (fun t ht => SK.of (.eq (.pointer (some ⟨(w.heap.size + 1), 2, none⟩))) rfl rfl) (hcm.trans ((Below.refl _ _).mono hcm.size))
    · have e1 : f 10 = .pointer (some ⟨(w.heap.size + 1), 2, none⟩) := hf 2 _ _ rfl rfl (up_dep hr (by kernel_rfl))
      obtain ⟨k0, k1, k2⟩ := (CY.out.after hcm).cells3
      have klt := (CY.out.after hcm).lt
      refine GJ.op hj (by kernel_rfl) hr rfl [8, 9, 10, 11, 12, 13, 14, 15, 16, 17, 6, 7] (by kernel_rfl) (fun K hK => ?_)
      simp only [Act.put, List.foldl_cons, List.foldl_nil, List.setIfInBounds_toArray, List.set_cons_zero, List.set_cons_succ] at hK ⊢
      clear hj hf
      rw [e1] at hK ⊢
      clear e1
      go_simp
      exact hK _ _ (fun k v _ _ h => h.keep (Below.refl _ _)) (fun t ht => SK.of (.eq (.slice qY (limbs d).length nY)) rfl rfl) (hcm.trans ((Below.refl _ _).mono hcm.size))
    · have e1 : f 9 = .slice pX (limbs a).length mX := hf 1 _ _ rfl rfl (up_dep hr (by kernel_rfl))
      have e2 : f 11 = .slice qY (limbs d).length nY := hf 3 _ _ rfl rfl (up_dep hr (by kernel_rfl))
      refine GJ.op hj (by kernel_rfl) hr rfl [8, 9, 10, 11, 12, 13, 14, 15, 16, 17, 6, 7] (by kernel_rfl) (fun K hK => ?_)
      simp only [Act.put, List.foldl_cons, List.foldl_nil, List.setIfInBounds_toArray, List.set_cons_zero, List.set_cons_succ] at hK ⊢
      clear hj hf
      rw [e1, e2] at hK ⊢
      clear e1 e2
      go_simp
      refine (Product_n w9 _ _ a d (FXN.out.after hcm) (FYD.out.after hcm) (Nat.le_trans LA.out (by omega)) (Nat.le_trans LD.out (by omega))).mono ?_
      rintro e w10 ⟨v10, rfl, hv10, hb10⟩
      exact hK _ _ (fun k v _ _ h => h.keep hb10) (fun t ht => SK.of (.nat (a * d)) rfl hv10) (hcm.trans (hb10.mono hcm.size))
    · have klt := (CY.out.after hcm).lt
      refine GJ.op hj (by kernel_rfl) hr rfl [8, 9, 10, 11, 12, 13, 14, 15, 16, 17, 6, 7] (by kernel_rfl) (fun K hK => ?_)
      simp only [Act.put, List.foldl_cons, List.foldl_nil, List.setIfInBounds_toArray, List.set_cons_zero, List.set_cons_succ] at hK ⊢
      clear hj hf
      go_simp
      exact hK _ _ (fun k v _ _ h => h.keep (Below.refl _ _)) (fun t ht => SK.of (.eq (.pointer (some ⟨(w.heap.size + 1), 1, none⟩))) rfl rfl) (hcm.trans ((Below.refl _ _).mono hcm.size))
    · have e1 : f 13 = .pointer (some ⟨(w.heap.size + 1), 1, none⟩) := hf 5 _ _ rfl rfl (up_dep hr (by kernel_rfl))
      obtain ⟨k0, k1, k2⟩ := (CY.out.after hcm).cells3
      have klt := (CY.out.after hcm).lt
      refine GJ.op hj (by kernel_rfl) hr rfl [8, 9, 10, 11, 12, 13, 14, 15, 16, 17, 6, 7] (by kernel_rfl) (fun K hK => ?_)
      simp only [Act.put, List.foldl_cons, List.foldl_nil, List.setIfInBounds_toArray, List.set_cons_zero, List.set_cons_succ] at hK ⊢
      clear hj hf
      rw [e1] at hK ⊢
      clear e1
      go_simp
      exact hK _ _ (fun k v _ _ h => h.keep (Below.refl _ _)) (fun t ht => SK.of (.eq (.slice pY (limbs c).length mY)) rfl rfl) (hcm.trans ((Below.refl _ _).mono hcm.size))
    · have klt := (CX.out.after hcm).lt
      refine GJ.op hj (by kernel_rfl) hr rfl [8, 9, 10, 11, 12, 13, 14, 15, 16, 17, 6, 7] (by kernel_rfl) (fun K hK => ?_)
      simp only [Act.put, List.foldl_cons, List.foldl_nil, List.setIfInBounds_toArray, List.set_cons_zero, List.set_cons_succ] at hK ⊢
      clear hj hf
      go_simp
      exact hK _ _ (fun k v _ _ h => h.keep (Below.refl _ _)) (fun t ht => SK.of (.eq (.pointer (some ⟨w.heap.size, 2, none⟩))) rfl rfl) (hcm.trans ((Below.refl _ _).mono hcm.size))
    · have e1 : f 15 = .pointer (some ⟨w.heap.size, 2, none⟩) := hf 7 _ _ rfl rfl (up_dep hr (by kernel_rfl))
      obtain ⟨k0, k1, k2⟩ := (CX.out.after hcm).cells3
      have klt := (CX.out.after hcm).lt
      refine GJ.op hj (by kernel_rfl) hr rfl [8, 9, 10, 11, 12, 13, 14, 15, 16, 17, 6, 7] (by kernel_rfl) (fun K hK => ?_)
      simp only [Act.put, List.foldl_cons, List.foldl_nil, List.setIfInBounds_toArray, List.set_cons_zero, List.set_cons_succ] at hK ⊢
      clear hj hf
      rw [e1] at hK ⊢
      clear e1
      go_simp
      exact hK _ _ (fun k v _ _ h => h.keep (Below.refl _ _)) (fun t ht => SK.of (.eq (.slice qX (limbs b).length nX)) rfl rfl) (hcm.trans ((Below.refl _ _).mono hcm.size))
    · have e1 : f 14 = .slice pY (limbs c).length mY := hf 6 _ _ rfl rfl (up_dep hr (by kernel_rfl))
      have e2 : f 16 = .slice qX (limbs b).length nX := hf 8 _ _ rfl rfl (up_dep hr (by kernel_rfl))
      refine GJ.op hj (by kernel_rfl) hr rfl [8, 9, 10, 11, 12, 13, 14, 15, 16, 17, 6, 7] (by kernel_rfl) (fun K hK => ?_)
      simp only [Act.put, List.foldl_cons, List.foldl_nil, List.setIfInBounds_toArray, List.set_cons_zero, List.set_cons_succ] at hK ⊢
      clear hj hf
      rw [e1, e2] at hK ⊢
      clear e1 e2
      go_simp
      refine (Product_n w9 _ _ c b (FYN.out.after hcm) (FXD.out.after hcm) (Nat.le_trans LC.out (by omega)) (Nat.le_trans LB.out (by omega))).mono ?_
      rintro e w10 ⟨v10, rfl, hv10, hb10⟩
      exact hK _ _ (fun k v _ _ h => h.keep hb10) (fun t ht => SK.of (.nat (c * b)) rfl hv10) (hcm.trans (hb10.mono hcm.size))
    · have s1 : Sl w9 (f 12) (limbs (a * d)) := hf 4 _ _ rfl rfl (up_dep hr (by kernel_rfl))
      refine GJ.op hj (by kernel_rfl) hr rfl [8, 9, 10, 11, 12, 13, 14, 15, 16, 17, 6, 7] (by kernel_rfl) (fun K hK => ?_)
      simp only [Act.put, List.foldl_cons, List.foldl_nil, List.setIfInBounds_toArray, List.set_cons_zero, List.set_cons_succ] at hK ⊢
      clear hj hf
      go_simp
      exact hK _ _ (fun k v _ _ h => h.keep (Below.refl _ _)) (fun t ht => SK.of (.nat (a * d)) rfl s1) (hcm.trans ((Below.refl _ _).mono hcm.size))
    · have s1 : Sl w9 (f 17) (limbs (c * b)) := hf 9 _ _ rfl rfl (up_dep hr (by kernel_rfl))
      refine GJ.op hj (by kernel_rfl) hr rfl [8, 9, 10, 11, 12, 13, 14, 15, 16, 17, 6, 7] (by kernel_rfl) (fun K hK => ?_)
      simp only [Act.put, List.foldl_cons, List.foldl_nil, List.setIfInBounds_toArray, List.set_cons_zero, List.set_cons_succ] at hK ⊢
      clear hj hf
      go_simp
      exact hK _ _ (fun k v _ _ h => h.keep (Below.refl _ _)) (fun t ht => SK.of (.nat (c * b)) rfl s1) (hcm.trans ((Below.refl _ _).mono hcm.size))
  · intro listed a w20 hr hj
    have hu : ∀ k, k < 12 → up listed k := fun k hk => all_up (by kernel_rfl) hj.lsize hr k hk
    obtain ⟨f, rfl, hcm, hf⟩ := hj.opened [8, 9, 10, 11, 12, 13, 14, 15, 16, 17, 6, 7] (by kernel_rfl)
    replace hcm : Below W0.heap.size W0 w20 := hcm
    have s6 : Sl w20 (f 6) (limbs (a * d)) := hf 10 _ _ rfl rfl (hu 10 (by omega))
    have s7 : Sl w20 (f 7) (limbs (c * b)) := hf 11 _ _ rfl rfl (hu 11 (by omega))
    obtain ⟨pP, cP, hP, _, _⟩ := s6.shape
    obtain ⟨pQ, cQ, hQ, _, _⟩ := s7.shape
    rw [hP] at s6
    rw [hQ] at s7
    have FP := Lib.hid s6
    have FQ := Lib.hid s7
    have hbn : Below W0.heap.size W0 w20 := hcm
    clear hcm hf hj hr hu s6 s7
    simp only [List.foldl_cons, List.foldl_nil, List.setIfInBounds_toArray, List.set_cons_zero, List.set_cons_succ]
    rw [hP, hQ]
    clear hP hQ
    generalize f 8 = g8
    generalize f 9 = g9
    generalize f 10 = g10
    generalize f 11 = g11
    generalize f 12 = g12
    generalize f 13 = g13
    generalize f 14 = g14
    generalize f 15 = g15
    generalize f 16 = g16
    generalize f 17 = g17
    clear f
    replace CX := Lib.hid (CX.out.after hbn)
    replace CY := Lib.hid (CY.out.after hbn)
    replace FXN := Lib.hid (FXN.out.after hbn)
    replace FXD := Lib.hid (FXD.out.after hbn)
    replace FYN := Lib.hid (FYN.out.after hbn)
    replace FYD := Lib.hid (FYD.out.after hbn)
    replace HB := Lib.hid (HB.out.trans (hbn.mono HB.out.size))
    clear hbn
    obtain ⟨cX0, cX1, cX2⟩ := CX.out.cells3
    have ltX := CX.out.lt
    obtain ⟨cY0, cY1, cY2⟩ := CY.out.cells3
    have ltY := CY.out.lt
    go_wp2_with fail
    refine (Product_n _ _ _ b d FXD.out FYD.out (Nat.le_trans LB.out (by omega)) (Nat.le_trans LD.out (by omega))).mono ?_
    rintro e w21 ⟨v, rfl, hv, hb21⟩
    have hv : Sl _ v (limbs (b * d)) := hv
    obtain ⟨pZ, qZ, rfl, _, _⟩ := hv.shape
    have FZ := Lib.hid hv
    clear hv
    clear cX0 cX1 cX2 ltX cY0 cY1 cY2 ltY
    replace CX := Lib.hid (CX.out.after hb21)
    replace CY := Lib.hid (CY.out.after hb21)
    replace FXN := Lib.hid (FXN.out.after hb21)
    replace FXD := Lib.hid (FXD.out.after hb21)
    replace FYN := Lib.hid (FYN.out.after hb21)
    replace FYD := Lib.hid (FYD.out.after hb21)
    replace FP := Lib.hid (FP.out.after hb21)
    replace FQ := Lib.hid (FQ.out.after hb21)
    replace HB := Lib.hid (HB.out.trans (hb21.mono HB.out.size))
    clear hb21
    by_cases hst : s = t
    · subst hst
      have hbb : (s != s) = false := by simp
      have hRd : R = dif (a * d) (c * b) := by rw [← hR]; unfold distN; rw [if_pos rfl]
      clear hR
      have HRD := Lib.hid hRd
      clear hRd
      obtain ⟨cX0, cX1, cX2⟩ := CX.out.cells3
      have ltX := CX.out.lt
      obtain ⟨cY0, cY1, cY2⟩ := CY.out.cells3
      have ltY := CY.out.lt
      go_wp2_with fail
      refine (Compare_c _ _ _ (limbs (a * d)) (limbs (c * b)) FP.out FQ.out).mono ?_
      rintro e w22 ⟨r, rfl, hr, n3, hw⟩
      have hb22 : Below w21.heap.size w21 w22 := by rw [hw]; exact below_drewN _ n3 _
      have hri := CmpS.is hr
      clear hr hw
      clear cX0 cX1 cX2 ltX cY0 cY1 cY2 ltY
      replace CX := Lib.hid (CX.out.after hb22)
      replace CY := Lib.hid (CY.out.after hb22)
      replace FXN := Lib.hid (FXN.out.after hb22)
      replace FXD := Lib.hid (FXD.out.after hb22)
      replace FYN := Lib.hid (FYN.out.after hb22)
      replace FYD := Lib.hid (FYD.out.after hb22)
      replace FP := Lib.hid (FP.out.after hb22)
      replace FQ := Lib.hid (FQ.out.after hb22)
      replace FZ := Lib.hid (FZ.out.after hb22)
      replace HB := Lib.hid (HB.out.trans (hb22.mono HB.out.size))
      clear hb22
      by_cases hlt : a * d < c * b
      · have hr1 : r = -1 := by rw [hri, if_pos hlt]
        subst hr1
        clear hri
        have HRE : Hid (R = c * b - a * d) := by show _ = _; rw [HRD.out, dif_lt hlt]
        have hle := Nat.le_of_lt hlt
        obtain ⟨cX0, cX1, cX2⟩ := CX.out.cells3
        have ltX := CX.out.lt
        obtain ⟨cY0, cY1, cY2⟩ := CY.out.cells3
        have ltY := CY.out.lt
        go_wp2_with fail
        refine (Diff_n _ _ _ (c * b) (a * d) FQ.out FP.out hle (Nat.le_trans L2.out (by omega))).mono ?_
        rintro e w23 ⟨v, rfl, hv, hb23⟩
        have hv : Sl _ v (limbs (c * b - a * d)) := hv
        obtain ⟨pD, qD, rfl, _, _⟩ := hv.shape
        have FD := Lib.hid hv
        clear hv
        clear cX0 cX1 cX2 ltX cY0 cY1 cY2 ltY
        replace CX := Lib.hid (CX.out.after hb23)
        replace CY := Lib.hid (CY.out.after hb23)
        replace FXN := Lib.hid (FXN.out.after hb23)
        replace FXD := Lib.hid (FXD.out.after hb23)
        replace FYN := Lib.hid (FYN.out.after hb23)
        replace FYD := Lib.hid (FYD.out.after hb23)
        replace FP := Lib.hid (FP.out.after hb23)
        replace FQ := Lib.hid (FQ.out.after hb23)
        replace FZ := Lib.hid (FZ.out.after hb23)
        replace HB := Lib.hid (HB.out.trans (hb23.mono HB.out.size))
        clear hb23
        obtain ⟨cX0, cX1, cX2⟩ := CX.out.cells3
        have ltX := CX.out.lt
        obtain ⟨cY0, cY1, cY2⟩ := CY.out.cells3
        have ltY := CY.out.lt
        go_wp2_with fail
        go_ret2
        rw [HRE.out]
        exact ⟨_, _, rfl, FD.out, FZ.out, HB.out⟩
      · have hr1 : 0 ≤ r := by rw [hri, if_neg hlt]; split <;> omega
        have hr2 : decide (0 ≤ r) = true := decide_eq_true hr1
        clear hri
        have HRE : Hid (R = a * d - c * b) := by show _ = _; rw [HRD.out, dif_ge hlt]
        have hle := Nat.le_of_not_lt hlt
        obtain ⟨cX0, cX1, cX2⟩ := CX.out.cells3
        have ltX := CX.out.lt
        obtain ⟨cY0, cY1, cY2⟩ := CY.out.cells3
        have ltY := CY.out.lt
        go_wp2_with fail
        refine (Diff_n _ _ _ (a * d) (c * b) FP.out FQ.out hle (Nat.le_trans L1.out (by omega))).mono ?_
        rintro e w23 ⟨v, rfl, hv, hb23⟩
        have hv : Sl _ v (limbs (a * d - c * b)) := hv
        obtain ⟨pD, qD, rfl, _, _⟩ := hv.shape
        have FD := Lib.hid hv
        clear hv
        clear cX0 cX1 cX2 ltX cY0 cY1 cY2 ltY
        replace CX := Lib.hid (CX.out.after hb23)
        replace CY := Lib.hid (CY.out.after hb23)
        replace FXN := Lib.hid (FXN.out.after hb23)
        replace FXD := Lib.hid (FXD.out.after hb23)
        replace FYN := Lib.hid (FYN.out.after hb23)
        replace FYD := Lib.hid (FYD.out.after hb23)
        replace FP := Lib.hid (FP.out.after hb23)
        replace FQ := Lib.hid (FQ.out.after hb23)
        replace FZ := Lib.hid (FZ.out.after hb23)
        replace HB := Lib.hid (HB.out.trans (hb23.mono HB.out.size))
        clear hb23
        obtain ⟨cX0, cX1, cX2⟩ := CX.out.cells3
        have ltX := CX.out.lt
        obtain ⟨cY0, cY1, cY2⟩ := CY.out.cells3
        have ltY := CY.out.lt
        go_wp2_with fail
        go_ret2
        rw [HRE.out]
        exact ⟨_, _, rfl, FD.out, FZ.out, HB.out⟩
    · have hb2 : (s == t) = false := beq_eq_false_iff_ne.2 hst
      have hb3 : ¬ (s = t) := hst
      have hbb : (s != t) = true := by simpa using hst
      have HRD : Hid (R = a * d + c * b) := by show _ = _; rw [← hR]; unfold distN; rw [if_neg hst]
      clear hR
      obtain ⟨cX0, cX1, cX2⟩ := CX.out.cells3
      have ltX := CX.out.lt
      obtain ⟨cY0, cY1, cY2⟩ := CY.out.cells3
      have ltY := CY.out.lt
      go_wp2_with fail
      refine (Sum_n _ _ _ (a * d) (c * b) FP.out FQ.out (Nat.le_trans L1.out (by omega)) (Nat.le_trans L2.out (by omega))).mono ?_
      rintro e w22 ⟨v, rfl, hv, hb22⟩
      have hv : Sl _ v (limbs (a * d + c * b)) := hv
      obtain ⟨pD, qD, rfl, _, _⟩ := hv.shape
      have FD := Lib.hid hv
      clear hv
      clear cX0 cX1 cX2 ltX cY0 cY1 cY2 ltY
      replace CX := Lib.hid (CX.out.after hb22)
      replace CY := Lib.hid (CY.out.after hb22)
      replace FXN := Lib.hid (FXN.out.after hb22)
      replace FXD := Lib.hid (FXD.out.after hb22)
      replace FYN := Lib.hid (FYN.out.after hb22)
      replace FYD := Lib.hid (FYD.out.after hb22)
      replace FP := Lib.hid (FP.out.after hb22)
      replace FQ := Lib.hid (FQ.out.after hb22)
      replace FZ := Lib.hid (FZ.out.after hb22)
      replace HB := Lib.hid (HB.out.trans (hb22.mono HB.out.size))
      clear hb22
      obtain ⟨cX0, cX1, cX2⟩ := CX.out.cells3
      have ltX := CX.out.lt
      obtain ⟨cY0, cY1, cY2⟩ := CY.out.cells3
      have ltY := CY.out.lt
      go_wp2_with fail
      go_ret2
      rw [HRD.out]
      exact ⟨_, _, rfl, FD.out, FZ.out, HB.out⟩
set_option maxRecDepth 100000 in
set_option maxHeartbeats 4000000 in
theorem closer2_c (w : World) (v u v' : Value) (s t g : Bool) (a b c d e f : Nat) (h : IsF w v (fr s a b)) (k : IsF w u (fr t c d)) (l : IsF w v' (fr g e f))
    (la : (limbs a).length ≤ 1000) (lb : (limbs b).length ≤ 1000) (lc : (limbs c).length ≤ 1000) (ld : (limbs d).length ≤ 1000) (le : (limbs e).length ≤ 1000) (lf : (limbs f).length ≤ 1000) :
    Calls Try.prog 90 #[v, u, v'] w fun e' w' => e' = .returned (.bool (decide (distN s a b t c d * (b * f) < distN s a b g e f * (b * d)))) ∧ Below w.heap.size w w' := by
  obtain ⟨va, vb, rfl, h1, h2⟩ := h
  obtain ⟨vc, vd, rfl, h3, h4⟩ := k
  obtain ⟨ve, vf, rfl, h5, h6⟩ := l
  obtain ⟨pX, mX, rfl, _, _⟩ := h1.shape
  obtain ⟨qX, nX, rfl, _, _⟩ := h2.shape
  obtain ⟨pY, mY, rfl, _, _⟩ := h3.shape
  obtain ⟨qY, nY, rfl, _, _⟩ := h4.shape
  obtain ⟨pZ, mZ, rfl, _, _⟩ := h5.shape
  obtain ⟨qZ, nZ, rfl, _, _⟩ := h6.shape
  have hX0 : IsF w (.agg #[.bool s, .slice pX (limbs a).length mX, .slice qX (limbs b).length nX]) (fr s a b) := ⟨_, _, rfl, h1, h2⟩
  have hY0 : IsF w (.agg #[.bool t, .slice pY (limbs c).length mY, .slice qY (limbs d).length nY]) (fr t c d) := ⟨_, _, rfl, h3, h4⟩
  have hZ0 : IsF w (.agg #[.bool g, .slice pZ (limbs e).length mZ, .slice qZ (limbs f).length nZ]) (fr g e f) := ⟨_, _, rfl, h5, h6⟩
  show Calls _ _ #[.agg #[.bool s, .slice pX (limbs a).length mX, .slice qX (limbs b).length nX], .agg #[.bool t, .slice pY (limbs c).length mY, .slice qY (limbs d).length nY], .agg #[.bool g, .slice pZ (limbs e).length mZ, .slice qZ (limbs f).length nZ]] w _
  obtain ⟨W0, hW, bx, by', bz, hsz, hb0⟩ := start3 w #[.bool s, .slice pX (limbs a).length mX, .slice qX (limbs b).length nX] #[.bool t, .slice pY (limbs c).length mY, .slice qY (limbs d).length nY] #[.bool g, .slice pZ (limbs e).length mZ, .slice qZ (limbs f).length nZ] 25
  have FX := Lib.hid (hX0.after hb0)
  have FY := Lib.hid (hY0.after hb0)
  have FZ := Lib.hid (hZ0.after hb0)
  have HB := Lib.hid hb0
  have CX := Lib.hid bx
  have CY := Lib.hid by'
  have CZ := Lib.hid bz
  have LL := Lib.hid (And.intro la (And.intro lb (And.intro lc (And.intro ld (And.intro le lf)))))
  have LP := Lib.hid (dist_len (s := s) (t := t) la lb lc ld)
  have LQ := Lib.hid (dist_len (s := s) (t := g) la lb le lf)
  have L1 : Hid ((limbs (b * f)).length ≤ 2000) := by show _ ≤ _; have := limbs_mul_len b f; omega
  have L2 : Hid ((limbs (b * d)).length ≤ 2000) := by show _ ≤ _; have := limbs_mul_len b d; omega
  clear h1 h2 h3 h4 h5 h6 hX0 hY0 hZ0 hb0 bx by' bz hsz la lb lc ld le lf
  obtain ⟨D1, hD1⟩ : ∃ D1, distN s a b t c d = D1 := ⟨_, rfl⟩
  obtain ⟨D2, hD2⟩ : ∃ D2, distN s a b g e f = D2 := ⟨_, rfl⟩
  rw [hD1] at LP
  rw [hD2] at LQ
  rw [hD1, hD2]
  have HD1 := Lib.hid hD1
  have HD2 := Lib.hid hD2
  clear hD1 hD2
  go_enter Try.func90, Try.ntmps90
  go_upto_region 1 with fail
  rw [← hW]
  clear hW
  obtain ⟨cX0, cX1, cX2⟩ := CX.out.cells3
  have ltX := CX.out.lt
  obtain ⟨cY0, cY1, cY2⟩ := CY.out.cells3
  have ltY := CY.out.lt
  obtain ⟨cZ0, cZ1, cZ2⟩ := CZ.out.cells3
  have ltZ := CZ.out.lt
  go_wp2_with fail
  refine (distance_c _ _ _ s t a b c d FX.out FY.out LL.out.1 LL.out.2.1 LL.out.2.2.1 LL.out.2.2.2.1).mono ?_
  rw [HD1.out]
  rintro e w1 ⟨v1, v2, rfl, hv1, hv2, hb1⟩
  obtain ⟨pA, cA, rfl, _, _⟩ := hv1.shape
  obtain ⟨pB, cB, rfl, _, _⟩ := hv2.shape
  have FA := Lib.hid hv1
  have FB := Lib.hid hv2
  clear hv1 hv2
  clear cX0 cX1 cX2 ltX cY0 cY1 cY2 ltY cZ0 cZ1 cZ2 ltZ
  replace CX := Lib.hid (CX.out.after hb1)
  replace CY := Lib.hid (CY.out.after hb1)
  replace CZ := Lib.hid (CZ.out.after hb1)
  replace FX := Lib.hid (FX.out.after hb1)
  replace FY := Lib.hid (FY.out.after hb1)
  replace FZ := Lib.hid (FZ.out.after hb1)
  replace HB := Lib.hid (HB.out.trans (hb1.mono HB.out.size))
  clear hb1
  obtain ⟨cX0, cX1, cX2⟩ := CX.out.cells3
  have ltX := CX.out.lt
  obtain ⟨cY0, cY1, cY2⟩ := CY.out.cells3
  have ltY := CY.out.lt
  obtain ⟨cZ0, cZ1, cZ2⟩ := CZ.out.cells3
  have ltZ := CZ.out.lt
  go_wp2_with fail
  refine (distance_c _ _ _ s g a b e f FX.out FZ.out LL.out.1 LL.out.2.1 LL.out.2.2.2.2.1 LL.out.2.2.2.2.2).mono ?_
  rw [HD2.out]
  rintro e w11 ⟨v1, v2, rfl, hv1, hv2, hb11⟩
  obtain ⟨pC, cC, rfl, _, _⟩ := hv1.shape
  obtain ⟨pD, cD, rfl, _, _⟩ := hv2.shape
  have FC := Lib.hid hv1
  have FD := Lib.hid hv2
  clear hv1 hv2
  clear cX0 cX1 cX2 ltX cY0 cY1 cY2 ltY cZ0 cZ1 cZ2 ltZ
  replace CX := Lib.hid (CX.out.after hb11)
  replace CY := Lib.hid (CY.out.after hb11)
  replace CZ := Lib.hid (CZ.out.after hb11)
  replace FX := Lib.hid (FX.out.after hb11)
  replace FY := Lib.hid (FY.out.after hb11)
  replace FZ := Lib.hid (FZ.out.after hb11)
  replace FA := Lib.hid (FA.out.after hb11)
  replace FB := Lib.hid (FB.out.after hb11)
  replace HB := Lib.hid (HB.out.trans (hb11.mono HB.out.size))
  clear hb11
  obtain ⟨cX0, cX1, cX2⟩ := CX.out.cells3
  have ltX := CX.out.lt
  obtain ⟨cY0, cY1, cY2⟩ := CY.out.cells3
  have ltY := CY.out.lt
  obtain ⟨cZ0, cZ1, cZ2⟩ := CZ.out.cells3
  have ltZ := CZ.out.lt
  go_wp2_with fail
  refine (Product_n _ _ _ D1 (b * f) FA.out FD.out (Nat.le_trans LP.out (by omega)) (Nat.le_trans L1.out (by omega))).mono ?_
  rintro e w21 ⟨v, rfl, hv, hb21⟩
  have hv : Sl _ v (limbs (D1 * (b * f))) := hv
  obtain ⟨pE, qE, rfl, _, _⟩ := hv.shape
  have FE := Lib.hid hv
  clear hv
  clear cX0 cX1 cX2 ltX cY0 cY1 cY2 ltY cZ0 cZ1 cZ2 ltZ
  replace CX := Lib.hid (CX.out.after hb21)
  replace CY := Lib.hid (CY.out.after hb21)
  replace CZ := Lib.hid (CZ.out.after hb21)
  replace FX := Lib.hid (FX.out.after hb21)
  replace FY := Lib.hid (FY.out.after hb21)
  replace FZ := Lib.hid (FZ.out.after hb21)
  replace FA := Lib.hid (FA.out.after hb21)
  replace FB := Lib.hid (FB.out.after hb21)
  replace FC := Lib.hid (FC.out.after hb21)
  replace FD := Lib.hid (FD.out.after hb21)
  replace HB := Lib.hid (HB.out.trans (hb21.mono HB.out.size))
  clear hb21
  obtain ⟨cX0, cX1, cX2⟩ := CX.out.cells3
  have ltX := CX.out.lt
  obtain ⟨cY0, cY1, cY2⟩ := CY.out.cells3
  have ltY := CY.out.lt
  obtain ⟨cZ0, cZ1, cZ2⟩ := CZ.out.cells3
  have ltZ := CZ.out.lt
  go_wp2_with fail
  refine (Product_n _ _ _ D2 (b * d) FC.out FB.out (Nat.le_trans LQ.out (by omega)) (Nat.le_trans L2.out (by omega))).mono ?_
  rintro e w22 ⟨v, rfl, hv, hb22⟩
  have hv : Sl _ v (limbs (D2 * (b * d))) := hv
  obtain ⟨pG, qG, rfl, _, _⟩ := hv.shape
  have FG := Lib.hid hv
  clear hv
  clear cX0 cX1 cX2 ltX cY0 cY1 cY2 ltY cZ0 cZ1 cZ2 ltZ
  replace CX := Lib.hid (CX.out.after hb22)
  replace CY := Lib.hid (CY.out.after hb22)
  replace CZ := Lib.hid (CZ.out.after hb22)
  replace FX := Lib.hid (FX.out.after hb22)
  replace FY := Lib.hid (FY.out.after hb22)
  replace FZ := Lib.hid (FZ.out.after hb22)
  replace FA := Lib.hid (FA.out.after hb22)
  replace FB := Lib.hid (FB.out.after hb22)
  replace FC := Lib.hid (FC.out.after hb22)
  replace FD := Lib.hid (FD.out.after hb22)
  replace FE := Lib.hid (FE.out.after hb22)
  replace HB := Lib.hid (HB.out.trans (hb22.mono HB.out.size))
  clear hb22
  obtain ⟨cX0, cX1, cX2⟩ := CX.out.cells3
  have ltX := CX.out.lt
  obtain ⟨cY0, cY1, cY2⟩ := CY.out.cells3
  have ltY := CY.out.lt
  obtain ⟨cZ0, cZ1, cZ2⟩ := CZ.out.cells3
  have ltZ := CZ.out.lt
  go_wp2_with fail
  refine (Compare_c _ _ _ (limbs (D1 * (b * f))) (limbs (D2 * (b * d))) FE.out FG.out).mono ?_
  rintro e w23 ⟨r, rfl, hr, n3, hw⟩
  have hb23 : Below w22.heap.size w22 w23 := by rw [hw]; exact below_drewN _ n3 _
  have hri := CmpS.is hr
  clear hr hw
  clear cX0 cX1 cX2 ltX cY0 cY1 cY2 ltY cZ0 cZ1 cZ2 ltZ
  replace CX := Lib.hid (CX.out.after hb23)
  replace CY := Lib.hid (CY.out.after hb23)
  replace CZ := Lib.hid (CZ.out.after hb23)
  replace FX := Lib.hid (FX.out.after hb23)
  replace FY := Lib.hid (FY.out.after hb23)
  replace FZ := Lib.hid (FZ.out.after hb23)
  replace FA := Lib.hid (FA.out.after hb23)
  replace FB := Lib.hid (FB.out.after hb23)
  replace FC := Lib.hid (FC.out.after hb23)
  replace FD := Lib.hid (FD.out.after hb23)
  replace FE := Lib.hid (FE.out.after hb23)
  replace FG := Lib.hid (FG.out.after hb23)
  replace HB := Lib.hid (HB.out.trans (hb23.mono HB.out.size))
  clear hb23
  by_cases hlt : D1 * (b * f) < D2 * (b * d)
  · have hr1 : r = -1 := by rw [hri, if_pos hlt]
    subst hr1
    clear hri
    have HE : Hid (decide (D1 * (b * f) < D2 * (b * d)) = true) := decide_eq_true hlt
    clear hlt
    obtain ⟨cX0, cX1, cX2⟩ := CX.out.cells3
    have ltX := CX.out.lt
    obtain ⟨cY0, cY1, cY2⟩ := CY.out.cells3
    have ltY := CY.out.lt
    obtain ⟨cZ0, cZ1, cZ2⟩ := CZ.out.cells3
    have ltZ := CZ.out.lt
    go_wp2_with fail
    go_ret
    rw [HE.out]
    exact ⟨rfl, HB.out⟩
  · have hr1 : 0 ≤ r := by rw [hri, if_neg hlt]; split <;> omega
    have hr2 : decide (r < 0) = false := decide_eq_false (by omega)
    clear hri
    have HE : Hid (decide (D1 * (b * f) < D2 * (b * d)) = false) := decide_eq_false hlt
    clear hlt
    obtain ⟨cX0, cX1, cX2⟩ := CX.out.cells3
    have ltX := CX.out.lt
    obtain ⟨cY0, cY1, cY2⟩ := CY.out.cells3
    have ltY := CY.out.lt
    obtain ⟨cZ0, cZ1, cZ2⟩ := CZ.out.cells3
    have ltZ := CZ.out.lt
    go_wp2_with fail
    go_ret
    rw [HE.out]
    exact ⟨rfl, HB.out⟩
end Go.Proofs.Ytaojdlcailpheaa
