/- The walk of RatioNearest: no fraction with as small a denominator lies closer (the denominator above 0). -/
import Derived.Test.YtaojdlcailpheaaQM4
import Derived.Test.YtaojdlcailpheaaQGk
import Derived.Test.YtaojdlcailpheaaQSj
import Derived.Test.YtaojdlcailpheaaK26
set_option linter.unusedVariables false
namespace Go.Proofs.Ytaojdlcailpheaa
open Go.RowKit

set_option maxRecDepth 100000 in
set_option maxHeartbeats 16000000 in
theorem near_pz (w : World) (n d : Int) (den q : Nat) (X : F) (N k z : Int) (n0 : -32768 ≤ n) (n1 : n ≤ 32767) (d0 : -32768 ≤ d) (d1 : d ≤ 32767) (hd : 0 < d) (hden : den < 256)
    (hN : 1 + (den : Int) % 40 = N) (hN2 : 1 + ((den % 40 : Nat) : Int) = N) (hN3 : ((1 + den % 40 : Nat) : Int) = N) (Nl : 1 ≤ N) (Nh : N ≤ 40)
    (hk : (q : Int) = k) (kl : 1 ≤ k) (kh : k ≤ 40) (hkN : decide (N < k) = false) (HZ : Hid (z = 0)) (zl : -32768 ≤ z) (zh : z ≤ 32768)
    (HX : Hid (smallF n d = X)) (HY : Hid (nearF X N = (fr false 0 q, 0))) (HVY : Hid (ValidF (fr false 0 q))) (HLQ : Hid (limbs q = [q]))
    (HL : Hid (∀ (m : Int) (j : Nat), 1 ≤ j → (j : Int) ≤ N → ¬ max ((m * d - n * (j : Int)) * k) (-((m * d - n * (j : Int)) * k)) < max ((z * d - n * k) * (j : Int)) (-((z * d - n * k) * (j : Int))) ∧ (max ((m * d - n * (j : Int)) * k) (-((m * d - n * (j : Int)) * k)) = max ((z * d - n * k) * (j : Int)) (-((z * d - n * k) * (j : Int))) → ¬ m * k < z * (j : Int)))) :
    Calls Try.prog 11 #[.int .i16 n, .int .i16 d, .int .u8 (den : Int)] w fun e w' => e = .returned (.bool true) ∧ Below w.heap.size w w' := by
  have HB : Hid (Below w.heap.size w w) := Below.refl _ _
  have wn : IntKind.i64.wrap n = n := wrap_in (by omega) (by omega)
  have wd : IntKind.i64.wrap d = d := wrap_in (by omega) (by omega)
  have wk : IntKind.i64.wrap k = k := wrap_in (by omega) (by omega)
  have wN : IntKind.i64.wrap N = N := wrap_in (by omega) (by omega)
  have wz : IntKind.i64.wrap z = z := wrap_in (by omega) (by omega)
  have hdz : (d == 0) = false := beq_eq_false_iff_ne.2 (by omega)
  have hdl : decide (d < 0) = false := decide_eq_false (by omega)
  go_enter Try.func11, Try.ntmps11
  go_wp2_with fail
  refine (HX.out ▸ small_c w n d n0 n1 d0 d1).mono ?_
  rintro e w1 ⟨v, rfl, hv, hb1⟩
  have hv : IsF _ v (X) := hv
  obtain ⟨va, vb, rfl, h1, h2⟩ := hv
  obtain ⟨pX, mX, rfl, _, _⟩ := h1.shape
  obtain ⟨qX, nX, rfl, _, _⟩ := h2.shape
  have FX := Lib.hid (IsF.at_ h1 h2)
  clear h1 h2
  replace HB := Lib.hid (HB.out.trans (hb1.mono HB.out.size))
  clear hb1
  have g_X : w.heap.size ≤ w1.heap.size := by have := HB.out.size; omega
  go_wp2_with fail
  refine (Nearest_c _ _ X N (FX.out.alloc _) (by omega) (by omega)).mono ?_
  rw [HY.out]
  rintro e w2 ⟨v, rfl, hv, hb2⟩
  have hv : IsF _ v (fr false 0 q) := hv
  obtain ⟨va, vb, rfl, h1, h2⟩ := hv
  obtain ⟨pY, mY, rfl, _, _⟩ := h1.shape
  obtain ⟨qY, nY, rfl, _, _⟩ := h2.shape
  have FY := Lib.hid (IsF.at_ h1 h2)
  clear h1 h2
  obtain ⟨hb2, CX⟩ := after_new hb2
  replace CX := Lib.hid CX
  replace FX := Lib.hid (FX.out.after hb2)
  replace HB := Lib.hid (HB.out.trans (hb2.mono HB.out.size))
  clear hb2
  have d_X_Y : w1.heap.size < w2.heap.size := CX.out.lt
  have g_Y : w.heap.size ≤ w2.heap.size := by have := HB.out.size; omega
  obtain ⟨cX0, cX1, cX2⟩ := CX.out.cells3
  have ltX := CX.out.lt
  go_wp2_with fail
  refine (Valid_c _ _ (fr false 0 q) (FY.out.alloc _)).mono ?_
  intro e w3 hr
  obtain ⟨rfl, hb3⟩ := hr.yes HVY.out
  clear hr
  clear cX0 cX1 cX2 ltX
  obtain ⟨hb3, CY⟩ := after_new hb3
  replace CY := Lib.hid CY
  replace CX := Lib.hid (CX.out.after hb3)
  replace FX := Lib.hid (FX.out.after hb3)
  replace FY := Lib.hid (FY.out.after hb3)
  replace HB := Lib.hid (HB.out.trans (hb3.mono HB.out.size))
  clear hb3
  obtain ⟨_, i1, i2⟩ := FY.out.parts
  replace i1 : Sl _ _ (limbs 0) := i1
  replace i2 : Sl _ _ (limbs q) := i2
  rw [HLQ.out] at i2
  obtain ⟨bq, oq, cq, eq1, _, _, kq, lq⟩ := i2.one_cell
  simp only [fr, HLQ.out, List.length_cons, List.length_nil, Nat.zero_add] at eq1
  injection eq1 with eq1 _ eq3
  subst eq1 eq3
  simp only [fr, HLQ.out, limbs_zero, List.length_cons, List.length_nil, Nat.zero_add] at CY
  clear i1 i2 FX FY
  obtain ⟨cX0, cX1, cX2⟩ := CX.out.cells3
  have ltX := CX.out.lt
  obtain ⟨cY0, cY1, cY2⟩ := CY.out.cells3
  have ltY := CY.out.lt
  go_upto_region 11 with fail
  have KQ := Lib.hid kq
  clear kq
  clear CX
  clear cX0 cX1 cX2 ltX cY0 cY1 cY2 ltY
  refine wp_region_gj (J := GJ _ (fun _ => SV (fun _ => none) (fun κ => match κ with | 0 => some (.pointer (some ⟨w2.heap.size, 2, none⟩)) | 1 => some (.slice (some ⟨bq, oq, none⟩) 1 nY) | 2 => some (.pointer (some ⟨bq, oq, none⟩)) | 3 => some (.int .u32 k) | 4 => some (.int .i64 k) | 5 => some (.int .i64 z) | 6 => some (.int .i64 k) | _ => none)) (fun _ _ w => Below w3.heap.size w3 w) _) (by kernel_rfl) ?_ ?_ (GJ.start (below_dr (Below.refl _ _)))
  · intro listed a w9 i hr hj
    obtain ⟨hi12, hun, _, _, _⟩ := ready_mem hr
    have h12 : i ∈ List.range 7 := List.mem_range.2 hi12
    simp only [List.range, List.range.loop, List.mem_cons, List.not_mem_nil, or_false] at h12
    obtain ⟨f, rfl, hcm, hf⟩ := hj.opened [73, 74, 75, 76, 77, 13, 14] (by kernel_rfl)
    have hcm : Below w3.heap.size w3 w9 := hcm
    rcases h12 with rfl | rfl | rfl | rfl | rfl | rfl | rfl
    · refine GJ.op hj (by kernel_rfl) hr rfl [73, 74, 75, 76, 77, 13, 14] (by kernel_rfl) (fun K hK => ?_)
      simp only [Act.put, List.foldl_cons, List.foldl_nil, List.setIfInBounds_toArray, List.set_cons_zero, List.set_cons_succ] at hK ⊢
      clear hj hf
      go_simp
      exact hK _ _ (fun k v _ _ h => h.keep (Below.refl _ _)) (fun t ht => SV.eq rfl rfl) hcm
    · have e1 : f 73 = .pointer (some ⟨w2.heap.size, 2, none⟩) := (hf 0 _ _ rfl rfl (up_dep hr (by kernel_rfl))).2 _ rfl
      obtain ⟨k0, k1, k2⟩ := (CY.out.after hcm).cells3
      have klt := (CY.out.after hcm).lt
      refine GJ.op hj (by kernel_rfl) hr rfl [73, 74, 75, 76, 77, 13, 14] (by kernel_rfl) (fun K hK => ?_)
      simp only [Act.put, List.foldl_cons, List.foldl_nil, List.setIfInBounds_toArray, List.set_cons_zero, List.set_cons_succ] at hK ⊢
      clear hj hf
      rw [e1] at hK ⊢
      clear e1
      go_simp
      exact hK _ _ (fun k v _ _ h => h.keep (Below.refl _ _)) (fun t ht => SV.eq rfl rfl) hcm
    · have e1 : f 74 = .slice (some ⟨bq, oq, none⟩) 1 nY := (hf 1 _ _ rfl rfl (up_dep hr (by kernel_rfl))).2 _ rfl
      refine GJ.op hj (by kernel_rfl) hr rfl [73, 74, 75, 76, 77, 13, 14] (by kernel_rfl) (fun K hK => ?_)
      simp only [Act.put, List.foldl_cons, List.foldl_nil, List.setIfInBounds_toArray, List.set_cons_zero, List.set_cons_succ] at hK ⊢
      clear hj hf
      rw [e1] at hK ⊢
      clear e1
      go_simp
      exact hK _ _ (fun k v _ _ h => h.keep (Below.refl _ _)) (fun t ht => SV.eq rfl rfl) hcm
    · have e1 : f 75 = .pointer (some ⟨bq, oq, none⟩) := (hf 2 _ _ rfl rfl (up_dep hr (by kernel_rfl))).2 _ rfl
      have kc := keep_cell hcm KQ.out
      have klt := World.block_lt_of_cell? _ _ kc
      simp only at klt
      refine GJ.op hj (by kernel_rfl) hr rfl [73, 74, 75, 76, 77, 13, 14] (by kernel_rfl) (fun K hK => ?_)
      simp only [Act.put, List.foldl_cons, List.foldl_nil, List.setIfInBounds_toArray, List.set_cons_zero, List.set_cons_succ] at hK ⊢
      clear hj hf
      rw [e1] at hK ⊢
      clear e1
      go_simp
      exact hK _ _ (fun k v _ _ h => h.keep (Below.refl _ _)) (fun t ht => SV.eq rfl rfl) hcm
    · have e1 : f 76 = .int .u32 k := (hf 3 _ _ rfl rfl (up_dep hr (by kernel_rfl))).2 _ rfl
      refine GJ.op hj (by kernel_rfl) hr rfl [73, 74, 75, 76, 77, 13, 14] (by kernel_rfl) (fun K hK => ?_)
      simp only [Act.put, List.foldl_cons, List.foldl_nil, List.setIfInBounds_toArray, List.set_cons_zero, List.set_cons_succ] at hK ⊢
      clear hj hf
      rw [e1] at hK ⊢
      clear e1
      go_simp
      exact hK _ _ (fun k v _ _ h => h.keep (Below.refl _ _)) (fun t ht => SV.eq rfl rfl) hcm
    · refine GJ.op hj (by kernel_rfl) hr rfl [73, 74, 75, 76, 77, 13, 14] (by kernel_rfl) (fun K hK => ?_)
      simp only [Act.put, List.foldl_cons, List.foldl_nil, List.setIfInBounds_toArray, List.set_cons_zero, List.set_cons_succ] at hK ⊢
      clear hj hf
      go_simp
      exact hK _ _ (fun k v _ _ h => h.keep (Below.refl _ _)) (fun t ht => SV.eq rfl (by show some (Value.int .i64 z) = _; rw [HZ.out])) hcm
    · have e1 : f 77 = .int .i64 k := (hf 4 _ _ rfl rfl (up_dep hr (by kernel_rfl))).2 _ rfl
      refine GJ.op hj (by kernel_rfl) hr rfl [73, 74, 75, 76, 77, 13, 14] (by kernel_rfl) (fun K hK => ?_)
      simp only [Act.put, List.foldl_cons, List.foldl_nil, List.setIfInBounds_toArray, List.set_cons_zero, List.set_cons_succ] at hK ⊢
      clear hj hf
      rw [e1] at hK ⊢
      clear e1
      go_simp
      exact hK _ _ (fun k v _ _ h => h.keep (Below.refl _ _)) (fun t ht => SV.eq rfl rfl) hcm
  · intro listed a w15 hr hj
    have hu : ∀ k, k < 7 → up listed k := fun k hk => all_up (by kernel_rfl) hj.lsize hr k hk
    obtain ⟨f, rfl, hcm, hf⟩ := hj.opened [73, 74, 75, 76, 77, 13, 14] (by kernel_rfl)
    replace hcm : Below w3.heap.size w3 w15 := hcm
    have e13 : f 13 = .int .i64 z := (hf 5 _ _ rfl rfl (hu 5 (by omega))).2 _ rfl
    have e14 : f 14 = .int .i64 k := (hf 6 _ _ rfl rfl (hu 6 (by omega))).2 _ rfl
    replace HB : Hid (Below w.heap.size w w15) := Lib.hid (HB.out.trans (hcm.mono HB.out.size))
    replace CY := Lib.hid (CY.out.after hcm)
    replace lq := Nat.lt_of_lt_of_le lq hcm.size
    have kq := keep_cell hcm KQ.out
    clear hf hj hr hu hcm KQ
    simp only [List.foldl_cons, List.foldl_nil, List.setIfInBounds_toArray, List.set_cons_zero, List.set_cons_succ]
    rw [e13, e14]
    clear e13 e14
    generalize f 73 = g73
    generalize f 74 = g74
    generalize f 75 = g75
    generalize f 76 = g76
    generalize f 77 = g77
    clear f
    obtain ⟨cY0, cY1, cY2⟩ := CY.out.cells3
    have ltY := CY.out.lt
    go_wp2_with fail
    clear cY0 cY1 cY2 ltY
    clear CY HX HY HVY HLQ  kq lq 
    clear g_X d_X_Y g_Y
    go_loopg [15] (40 + 1) (fun g t wx => ∃ j : Nat, 1 ≤ j ∧ (j : Int) ≤ N + 1 ∧ g = 42 - j ∧ t = .int .i64 (j : Int) ∧ Hid (Below w.heap.size w wx))
    case atStart => exact ⟨1, Nat.le_refl _, by omega, rfl, rfl, HB.out⟩
    case round =>
      obtain ⟨j, hj1, hjN, rfl, rfl, hbl⟩ := hrel
      clear HB
      by_cases hlt : (j : Int) ≤ N
      · have hdj : decide ((j : Int) ≤ N) = true := decide_eq_true hlt
        go_wp2_with fail
        have B0 := Lib.hid hbl.out
        clear hbl
        go_loopg [16] 2 (fun g t wx => ∃ i : Nat, i ≤ 2 ∧ g = 2 - i ∧ t = .int .i64 (i : Int) ∧ Hid (Below w.heap.size w wx))
        case atStart => exact ⟨0, by omega, rfl, rfl, B0.out⟩
        case round =>
          obtain ⟨i, hi2, rfl, rfl, hbl⟩ := hrel
          clear B0
          by_cases hil : i < 2
          · have hdi : decide ((i : Int) < 2) = true := decide_eq_true (by omega)
            obtain ⟨b1a, b1b⟩ := mulb (x := n) (y := (j : Int)) (X := 32768) (Y := 40) (by omega) (by omega) (by omega) (by omega)
            obtain ⟨b2a, b2b⟩ := floor_bd (n := n * (j : Int)) (d := d) (X := 32768 * 40) (by omega) b1a b1b
            obtain ⟨G, hG⟩ : ∃ G, n * (j : Int) / d = G := ⟨_, rfl⟩
            rw [hG] at b2a b2b
            obtain ⟨M, hM⟩ : ∃ M, G + (i : Int) = M := ⟨_, rfl⟩
            have bMa : -1310723 ≤ M := by omega
            have bMb : M ≤ 1310723 := by omega
            obtain ⟨f1, f2⟩ := HL.out M j hj1 hlt
            obtain ⟨b3a, b3b⟩ := mulb (x := z) (y := d) (X := 32768) (Y := 32768) (by omega) (by omega) (by omega) (by omega)
            obtain ⟨b4a, b4b⟩ := mulb (x := n) (y := k) (X := 32768) (Y := 40) (by omega) (by omega) (by omega) (by omega)
            obtain ⟨b5a, b5b⟩ := mulb (x := M) (y := d) (X := 1310723) (Y := 32768) (by omega) (by omega) (by omega) (by omega)
            obtain ⟨b6a, b6b⟩ := mulb (x := M) (y := k) (X := 1310723) (Y := 40) (by omega) (by omega) (by omega) (by omega)
            obtain ⟨b7a, b7b⟩ := mulb (x := z) (y := (j : Int)) (X := 32768) (Y := 40) (by omega) (by omega) (by omega) (by omega)
            have bdum := True.intro
            obtain ⟨b8a, b8b⟩ := mulb (x := z * d - n * k) (y := (j : Int)) (X := 2000000000) (Y := 40) (by omega) (by omega) (by omega) (by omega)
            obtain ⟨b9a, b9b⟩ := mulb (x := M * d - n * (j : Int)) (y := k) (X := 50000000000) (Y := 40) (by omega) (by omega) (by omega) (by omega)
            obtain ⟨U, hU⟩ : ∃ U, (z * d - n * k) * (j : Int) = U := ⟨_, rfl⟩
            obtain ⟨V, hV⟩ : ∃ V, (M * d - n * (j : Int)) * k = V := ⟨_, rfl⟩
            rw [hU] at b8a b8b f1 f2
            rw [hV] at b9a b9b f1 f2
            obtain ⟨UA, hUA⟩ : ∃ x, max U (-U) = x := ⟨_, rfl⟩
            obtain ⟨VA, hVA⟩ : ∃ x, max V (-V) = x := ⟨_, rfl⟩
            rw [hUA, hVA] at f1 f2
            have hlt1 : decide (VA < UA) = false := decide_eq_false (by omega)
            have hG2 := Lib.hid hG
            clear hG f1
            go_wp2_with fail
            refine (floor_c _ (n * (j : Int)) d (by omega) (by omega) (by omega)).mono ?_
            rw [hG2.out]
            rintro e w20 ⟨rfl, hb20⟩
            replace hbl := Lib.hid (hbl.out.trans (hb20.mono hbl.out.size))
            clear hb20 hG2
            by_cases he : VA = UA
            · have f3 := f2 he
              have hc : decide (M * k < z * (j : Int)) = false := decide_eq_false (by omega)
              have hq : (VA == UA) = true := by rw [he]; exact beq_self_eq_true _
              clear f2 f3 he
              go_wp2_with fail
              go_roundg (2 - (i + 1))
              case measure => omega
              case rel => exact ⟨i + 1, by omega, rfl, by go_num, hbl⟩
            · have hq : (VA == UA) = false := beq_eq_false_iff_ne.2 he
              clear f2 he
              go_wp2_with fail
              go_roundg (2 - (i + 1))
              case measure => omega
              case rel => exact ⟨i + 1, by omega, rfl, by go_num, hbl⟩
          · obtain rfl : i = 2 := by omega
            go_wp2_with fail
            go_roundg (42 - (j + 1))
            case measure => omega
            case rel => exact ⟨j + 1, by omega, by omega, rfl, by go_num, hbl⟩
      · have hdj : decide ((j : Int) ≤ N) = false := decide_eq_false hlt
        go_wp2_with fail
        refine (rworks_c _).mono ?_
        rintro e w21 ⟨rfl, hb21⟩
        replace hbl := Lib.hid (hbl.out.trans (hb21.mono hbl.out.size))
        clear hb21
        go_wp2_with fail
        go_ret
        exact ⟨rfl, hbl.out⟩
set_option maxRecDepth 100000 in
set_option maxHeartbeats 16000000 in
theorem near_pp (w : World) (n d : Int) (den q p : Nat) (X : F) (N k z : Int) (n0 : -32768 ≤ n) (n1 : n ≤ 32767) (d0 : -32768 ≤ d) (d1 : d ≤ 32767) (hd : 0 < d) (hden : den < 256)
    (hN : 1 + (den : Int) % 40 = N) (hN2 : 1 + ((den % 40 : Nat) : Int) = N) (hN3 : ((1 + den % 40 : Nat) : Int) = N) (Nl : 1 ≤ N) (Nh : N ≤ 40)
    (hk : (q : Int) = k) (kl : 1 ≤ k) (kh : k ≤ 40) (hkN : decide (N < k) = false) (hz : (p : Int) = z) (zl : -32768 ≤ z) (zh : z ≤ 32768) (hp0 : 0 < p) (hp1 : p ≤ 32768)
    (HX : Hid (smallF n d = X)) (HY : Hid (nearF X N = (fr false p q, 0))) (HVY : Hid (ValidF (fr false p q))) (HLQ : Hid (limbs q = [q])) (HLP : Hid (limbs p = [p]))
    (HL : Hid (∀ (m : Int) (j : Nat), 1 ≤ j → (j : Int) ≤ N → ¬ max ((m * d - n * (j : Int)) * k) (-((m * d - n * (j : Int)) * k)) < max ((z * d - n * k) * (j : Int)) (-((z * d - n * k) * (j : Int))) ∧ (max ((m * d - n * (j : Int)) * k) (-((m * d - n * (j : Int)) * k)) = max ((z * d - n * k) * (j : Int)) (-((z * d - n * k) * (j : Int))) → ¬ m * k < z * (j : Int)))) :
    Calls Try.prog 11 #[.int .i16 n, .int .i16 d, .int .u8 (den : Int)] w fun e w' => e = .returned (.bool true) ∧ Below w.heap.size w w' := by
  have HB : Hid (Below w.heap.size w w) := Below.refl _ _
  have wn : IntKind.i64.wrap n = n := wrap_in (by omega) (by omega)
  have wd : IntKind.i64.wrap d = d := wrap_in (by omega) (by omega)
  have wk : IntKind.i64.wrap k = k := wrap_in (by omega) (by omega)
  have wN : IntKind.i64.wrap N = N := wrap_in (by omega) (by omega)
  have wz : IntKind.i64.wrap z = z := wrap_in (by omega) (by omega)
  have hdz : (d == 0) = false := beq_eq_false_iff_ne.2 (by omega)
  have hdl : decide (d < 0) = false := decide_eq_false (by omega)
  go_enter Try.func11, Try.ntmps11
  go_wp2_with fail
  refine (HX.out ▸ small_c w n d n0 n1 d0 d1).mono ?_
  rintro e w1 ⟨v, rfl, hv, hb1⟩
  have hv : IsF _ v (X) := hv
  obtain ⟨va, vb, rfl, h1, h2⟩ := hv
  obtain ⟨pX, mX, rfl, _, _⟩ := h1.shape
  obtain ⟨qX, nX, rfl, _, _⟩ := h2.shape
  have FX := Lib.hid (IsF.at_ h1 h2)
  clear h1 h2
  replace HB := Lib.hid (HB.out.trans (hb1.mono HB.out.size))
  clear hb1
  have g_X : w.heap.size ≤ w1.heap.size := by have := HB.out.size; omega
  go_wp2_with fail
  refine (Nearest_c _ _ X N (FX.out.alloc _) (by omega) (by omega)).mono ?_
  rw [HY.out]
  rintro e w2 ⟨v, rfl, hv, hb2⟩
  have hv : IsF _ v (fr false p q) := hv
  obtain ⟨va, vb, rfl, h1, h2⟩ := hv
  obtain ⟨pY, mY, rfl, _, _⟩ := h1.shape
  obtain ⟨qY, nY, rfl, _, _⟩ := h2.shape
  have FY := Lib.hid (IsF.at_ h1 h2)
  clear h1 h2
  obtain ⟨hb2, CX⟩ := after_new hb2
  replace CX := Lib.hid CX
  replace FX := Lib.hid (FX.out.after hb2)
  replace HB := Lib.hid (HB.out.trans (hb2.mono HB.out.size))
  clear hb2
  have d_X_Y : w1.heap.size < w2.heap.size := CX.out.lt
  have g_Y : w.heap.size ≤ w2.heap.size := by have := HB.out.size; omega
  obtain ⟨cX0, cX1, cX2⟩ := CX.out.cells3
  have ltX := CX.out.lt
  go_wp2_with fail
  refine (Valid_c _ _ (fr false p q) (FY.out.alloc _)).mono ?_
  intro e w3 hr
  obtain ⟨rfl, hb3⟩ := hr.yes HVY.out
  clear hr
  clear cX0 cX1 cX2 ltX
  obtain ⟨hb3, CY⟩ := after_new hb3
  replace CY := Lib.hid CY
  replace CX := Lib.hid (CX.out.after hb3)
  replace FX := Lib.hid (FX.out.after hb3)
  replace FY := Lib.hid (FY.out.after hb3)
  replace HB := Lib.hid (HB.out.trans (hb3.mono HB.out.size))
  clear hb3
  obtain ⟨_, i1, i2⟩ := FY.out.parts
  replace i1 : Sl _ _ (limbs p) := i1
  replace i2 : Sl _ _ (limbs q) := i2
  rw [HLQ.out] at i2
  obtain ⟨bq, oq, cq, eq1, _, _, kq, lq⟩ := i2.one_cell
  simp only [fr, HLQ.out, List.length_cons, List.length_nil, Nat.zero_add] at eq1
  injection eq1 with eq1 _ eq3
  subst eq1 eq3
  rw [HLP.out] at i1
  obtain ⟨bp, op, cp, ep1, _, _, kp, lp⟩ := i1.one_cell
  simp only [fr, HLP.out, List.length_cons, List.length_nil, Nat.zero_add] at ep1
  injection ep1 with ep1 _ ep3
  subst ep1 ep3
  simp only [fr, HLQ.out, HLP.out, List.length_cons, List.length_nil, Nat.zero_add] at CY
  clear i1 i2 FX FY
  obtain ⟨cX0, cX1, cX2⟩ := CX.out.cells3
  have ltX := CX.out.lt
  obtain ⟨cY0, cY1, cY2⟩ := CY.out.cells3
  have ltY := CY.out.lt
  go_upto_region 11 with fail
  have KQ := Lib.hid kq
  have KP := Lib.hid kp
  clear kq kp
  clear CX
  clear cX0 cX1 cX2 ltX cY0 cY1 cY2 ltY
  refine wp_region_gj (J := GJ _ (fun _ => SV (fun _ => none) (fun κ => match κ with | 0 => some (.pointer (some ⟨w2.heap.size, 2, none⟩)) | 1 => some (.slice (some ⟨bq, oq, none⟩) 1 nY) | 2 => some (.pointer (some ⟨bq, oq, none⟩)) | 3 => some (.int .u32 k) | 4 => some (.int .i64 k) | 5 => some (.int .i64 0) | 6 => some (.int .i64 k) | _ => none)) (fun _ _ w => Below w3.heap.size w3 w) _) (by kernel_rfl) ?_ ?_ (GJ.start (below_dr (Below.refl _ _)))
  · intro listed a w9 i hr hj
    obtain ⟨hi12, hun, _, _, _⟩ := ready_mem hr
    have h12 : i ∈ List.range 7 := List.mem_range.2 hi12
    simp only [List.range, List.range.loop, List.mem_cons, List.not_mem_nil, or_false] at h12
    obtain ⟨f, rfl, hcm, hf⟩ := hj.opened [73, 74, 75, 76, 77, 13, 14] (by kernel_rfl)
    have hcm : Below w3.heap.size w3 w9 := hcm
    rcases h12 with rfl | rfl | rfl | rfl | rfl | rfl | rfl
    · refine GJ.op hj (by kernel_rfl) hr rfl [73, 74, 75, 76, 77, 13, 14] (by kernel_rfl) (fun K hK => ?_)
      simp only [Act.put, List.foldl_cons, List.foldl_nil, List.setIfInBounds_toArray, List.set_cons_zero, List.set_cons_succ] at hK ⊢
      clear hj hf
      go_simp
      exact hK _ _ (fun k v _ _ h => h.keep (Below.refl _ _)) (fun t ht => SV.eq rfl rfl) hcm
    · have e1 : f 73 = .pointer (some ⟨w2.heap.size, 2, none⟩) := (hf 0 _ _ rfl rfl (up_dep hr (by kernel_rfl))).2 _ rfl
      obtain ⟨k0, k1, k2⟩ := (CY.out.after hcm).cells3
      have klt := (CY.out.after hcm).lt
      refine GJ.op hj (by kernel_rfl) hr rfl [73, 74, 75, 76, 77, 13, 14] (by kernel_rfl) (fun K hK => ?_)
      simp only [Act.put, List.foldl_cons, List.foldl_nil, List.setIfInBounds_toArray, List.set_cons_zero, List.set_cons_succ] at hK ⊢
      clear hj hf
      rw [e1] at hK ⊢
      clear e1
      go_simp
      exact hK _ _ (fun k v _ _ h => h.keep (Below.refl _ _)) (fun t ht => SV.eq rfl rfl) hcm
    · have e1 : f 74 = .slice (some ⟨bq, oq, none⟩) 1 nY := (hf 1 _ _ rfl rfl (up_dep hr (by kernel_rfl))).2 _ rfl
      refine GJ.op hj (by kernel_rfl) hr rfl [73, 74, 75, 76, 77, 13, 14] (by kernel_rfl) (fun K hK => ?_)
      simp only [Act.put, List.foldl_cons, List.foldl_nil, List.setIfInBounds_toArray, List.set_cons_zero, List.set_cons_succ] at hK ⊢
      clear hj hf
      rw [e1] at hK ⊢
      clear e1
      go_simp
      exact hK _ _ (fun k v _ _ h => h.keep (Below.refl _ _)) (fun t ht => SV.eq rfl rfl) hcm
    · have e1 : f 75 = .pointer (some ⟨bq, oq, none⟩) := (hf 2 _ _ rfl rfl (up_dep hr (by kernel_rfl))).2 _ rfl
      have kc := keep_cell hcm KQ.out
      have klt := World.block_lt_of_cell? _ _ kc
      simp only at klt
      refine GJ.op hj (by kernel_rfl) hr rfl [73, 74, 75, 76, 77, 13, 14] (by kernel_rfl) (fun K hK => ?_)
      simp only [Act.put, List.foldl_cons, List.foldl_nil, List.setIfInBounds_toArray, List.set_cons_zero, List.set_cons_succ] at hK ⊢
      clear hj hf
      rw [e1] at hK ⊢
      clear e1
      go_simp
      exact hK _ _ (fun k v _ _ h => h.keep (Below.refl _ _)) (fun t ht => SV.eq rfl rfl) hcm
    · have e1 : f 76 = .int .u32 k := (hf 3 _ _ rfl rfl (up_dep hr (by kernel_rfl))).2 _ rfl
      refine GJ.op hj (by kernel_rfl) hr rfl [73, 74, 75, 76, 77, 13, 14] (by kernel_rfl) (fun K hK => ?_)
      simp only [Act.put, List.foldl_cons, List.foldl_nil, List.setIfInBounds_toArray, List.set_cons_zero, List.set_cons_succ] at hK ⊢
      clear hj hf
      rw [e1] at hK ⊢
      clear e1
      go_simp
      exact hK _ _ (fun k v _ _ h => h.keep (Below.refl _ _)) (fun t ht => SV.eq rfl rfl) hcm
    · refine GJ.op hj (by kernel_rfl) hr rfl [73, 74, 75, 76, 77, 13, 14] (by kernel_rfl) (fun K hK => ?_)
      simp only [Act.put, List.foldl_cons, List.foldl_nil, List.setIfInBounds_toArray, List.set_cons_zero, List.set_cons_succ] at hK ⊢
      clear hj hf
      go_simp
      exact hK _ _ (fun k v _ _ h => h.keep (Below.refl _ _)) (fun t ht => SV.eq rfl rfl) hcm
    · have e1 : f 77 = .int .i64 k := (hf 4 _ _ rfl rfl (up_dep hr (by kernel_rfl))).2 _ rfl
      refine GJ.op hj (by kernel_rfl) hr rfl [73, 74, 75, 76, 77, 13, 14] (by kernel_rfl) (fun K hK => ?_)
      simp only [Act.put, List.foldl_cons, List.foldl_nil, List.setIfInBounds_toArray, List.set_cons_zero, List.set_cons_succ] at hK ⊢
      clear hj hf
      rw [e1] at hK ⊢
      clear e1
      go_simp
      exact hK _ _ (fun k v _ _ h => h.keep (Below.refl _ _)) (fun t ht => SV.eq rfl rfl) hcm
  · intro listed a w15 hr hj
    have hu : ∀ k, k < 7 → up listed k := fun k hk => all_up (by kernel_rfl) hj.lsize hr k hk
    obtain ⟨f, rfl, hcm, hf⟩ := hj.opened [73, 74, 75, 76, 77, 13, 14] (by kernel_rfl)
    replace hcm : Below w3.heap.size w3 w15 := hcm
    have e13 : f 13 = .int .i64 0 := (hf 5 _ _ rfl rfl (hu 5 (by omega))).2 _ rfl
    have e14 : f 14 = .int .i64 k := (hf 6 _ _ rfl rfl (hu 6 (by omega))).2 _ rfl
    replace HB : Hid (Below w.heap.size w w15) := Lib.hid (HB.out.trans (hcm.mono HB.out.size))
    replace CY := Lib.hid (CY.out.after hcm)
    replace lq := Nat.lt_of_lt_of_le lq hcm.size
    have kq := keep_cell hcm KQ.out
    have kp := keep_cell hcm KP.out
    replace lp := Nat.lt_of_lt_of_le lp hcm.size
    clear hf hj hr hu hcm KQ KP
    simp only [List.foldl_cons, List.foldl_nil, List.setIfInBounds_toArray, List.set_cons_zero, List.set_cons_succ]
    rw [e13, e14]
    clear e13 e14
    generalize f 73 = g73
    generalize f 74 = g74
    generalize f 75 = g75
    generalize f 76 = g76
    generalize f 77 = g77
    clear f
    obtain ⟨cY0, cY1, cY2⟩ := CY.out.cells3
    have ltY := CY.out.lt
    go_wp2_with fail
    clear cY0 cY1 cY2 ltY
    clear CY HX HY HVY HLQ HLP kq lq kp lp
    clear g_X d_X_Y g_Y
    go_loopg [15] (40 + 1) (fun g t wx => ∃ j : Nat, 1 ≤ j ∧ (j : Int) ≤ N + 1 ∧ g = 42 - j ∧ t = .int .i64 (j : Int) ∧ Hid (Below w.heap.size w wx))
    case atStart => exact ⟨1, Nat.le_refl _, by omega, rfl, rfl, HB.out⟩
    case round =>
      obtain ⟨j, hj1, hjN, rfl, rfl, hbl⟩ := hrel
      clear HB
      by_cases hlt : (j : Int) ≤ N
      · have hdj : decide ((j : Int) ≤ N) = true := decide_eq_true hlt
        go_wp2_with fail
        have B0 := Lib.hid hbl.out
        clear hbl
        go_loopg [16] 2 (fun g t wx => ∃ i : Nat, i ≤ 2 ∧ g = 2 - i ∧ t = .int .i64 (i : Int) ∧ Hid (Below w.heap.size w wx))
        case atStart => exact ⟨0, by omega, rfl, rfl, B0.out⟩
        case round =>
          obtain ⟨i, hi2, rfl, rfl, hbl⟩ := hrel
          clear B0
          by_cases hil : i < 2
          · have hdi : decide ((i : Int) < 2) = true := decide_eq_true (by omega)
            obtain ⟨b1a, b1b⟩ := mulb (x := n) (y := (j : Int)) (X := 32768) (Y := 40) (by omega) (by omega) (by omega) (by omega)
            obtain ⟨b2a, b2b⟩ := floor_bd (n := n * (j : Int)) (d := d) (X := 32768 * 40) (by omega) b1a b1b
            obtain ⟨G, hG⟩ : ∃ G, n * (j : Int) / d = G := ⟨_, rfl⟩
            rw [hG] at b2a b2b
            obtain ⟨M, hM⟩ : ∃ M, G + (i : Int) = M := ⟨_, rfl⟩
            have bMa : -1310723 ≤ M := by omega
            have bMb : M ≤ 1310723 := by omega
            obtain ⟨f1, f2⟩ := HL.out M j hj1 hlt
            obtain ⟨b3a, b3b⟩ := mulb (x := z) (y := d) (X := 32768) (Y := 32768) (by omega) (by omega) (by omega) (by omega)
            obtain ⟨b4a, b4b⟩ := mulb (x := n) (y := k) (X := 32768) (Y := 40) (by omega) (by omega) (by omega) (by omega)
            obtain ⟨b5a, b5b⟩ := mulb (x := M) (y := d) (X := 1310723) (Y := 32768) (by omega) (by omega) (by omega) (by omega)
            obtain ⟨b6a, b6b⟩ := mulb (x := M) (y := k) (X := 1310723) (Y := 40) (by omega) (by omega) (by omega) (by omega)
            obtain ⟨b7a, b7b⟩ := mulb (x := z) (y := (j : Int)) (X := 32768) (Y := 40) (by omega) (by omega) (by omega) (by omega)
            have bdum := True.intro
            obtain ⟨b8a, b8b⟩ := mulb (x := z * d - n * k) (y := (j : Int)) (X := 2000000000) (Y := 40) (by omega) (by omega) (by omega) (by omega)
            obtain ⟨b9a, b9b⟩ := mulb (x := M * d - n * (j : Int)) (y := k) (X := 50000000000) (Y := 40) (by omega) (by omega) (by omega) (by omega)
            obtain ⟨U, hU⟩ : ∃ U, (z * d - n * k) * (j : Int) = U := ⟨_, rfl⟩
            obtain ⟨V, hV⟩ : ∃ V, (M * d - n * (j : Int)) * k = V := ⟨_, rfl⟩
            rw [hU] at b8a b8b f1 f2
            rw [hV] at b9a b9b f1 f2
            obtain ⟨UA, hUA⟩ : ∃ x, max U (-U) = x := ⟨_, rfl⟩
            obtain ⟨VA, hVA⟩ : ∃ x, max V (-V) = x := ⟨_, rfl⟩
            rw [hUA, hVA] at f1 f2
            have hlt1 : decide (VA < UA) = false := decide_eq_false (by omega)
            have hG2 := Lib.hid hG
            clear hG f1
            go_wp2_with fail
            refine (floor_c _ (n * (j : Int)) d (by omega) (by omega) (by omega)).mono ?_
            rw [hG2.out]
            rintro e w20 ⟨rfl, hb20⟩
            replace hbl := Lib.hid (hbl.out.trans (hb20.mono hbl.out.size))
            clear hb20 hG2
            by_cases he : VA = UA
            · have f3 := f2 he
              have hc : decide (M * k < z * (j : Int)) = false := decide_eq_false (by omega)
              have hq : (VA == UA) = true := by rw [he]; exact beq_self_eq_true _
              clear f2 f3 he
              go_wp2_with fail
              go_roundg (2 - (i + 1))
              case measure => omega
              case rel => exact ⟨i + 1, by omega, rfl, by go_num, hbl⟩
            · have hq : (VA == UA) = false := beq_eq_false_iff_ne.2 he
              clear f2 he
              go_wp2_with fail
              go_roundg (2 - (i + 1))
              case measure => omega
              case rel => exact ⟨i + 1, by omega, rfl, by go_num, hbl⟩
          · obtain rfl : i = 2 := by omega
            go_wp2_with fail
            go_roundg (42 - (j + 1))
            case measure => omega
            case rel => exact ⟨j + 1, by omega, by omega, rfl, by go_num, hbl⟩
      · have hdj : decide ((j : Int) ≤ N) = false := decide_eq_false hlt
        go_wp2_with fail
        refine (rworks_c _).mono ?_
        rintro e w21 ⟨rfl, hb21⟩
        replace hbl := Lib.hid (hbl.out.trans (hb21.mono hbl.out.size))
        clear hb21
        go_wp2_with fail
        go_ret
        exact ⟨rfl, hbl.out⟩
set_option maxRecDepth 100000 in
set_option maxHeartbeats 16000000 in
theorem near_pn (w : World) (n d : Int) (den q p : Nat) (X : F) (N k z : Int) (n0 : -32768 ≤ n) (n1 : n ≤ 32767) (d0 : -32768 ≤ d) (d1 : d ≤ 32767) (hd : 0 < d) (hden : den < 256)
    (hN : 1 + (den : Int) % 40 = N) (hN2 : 1 + ((den % 40 : Nat) : Int) = N) (hN3 : ((1 + den % 40 : Nat) : Int) = N) (Nl : 1 ≤ N) (Nh : N ≤ 40)
    (hk : (q : Int) = k) (kl : 1 ≤ k) (kh : k ≤ 40) (hkN : decide (N < k) = false) (hz : -(p : Int) = z) (zl : -32768 ≤ z) (zh : z ≤ 32768) (hp0 : 0 < p) (hp1 : p ≤ 32768)
    (HX : Hid (smallF n d = X)) (HY : Hid (nearF X N = (fr true p q, 0))) (HVY : Hid (ValidF (fr true p q))) (HLQ : Hid (limbs q = [q])) (HLP : Hid (limbs p = [p]))
    (HL : Hid (∀ (m : Int) (j : Nat), 1 ≤ j → (j : Int) ≤ N → ¬ max ((m * d - n * (j : Int)) * k) (-((m * d - n * (j : Int)) * k)) < max ((z * d - n * k) * (j : Int)) (-((z * d - n * k) * (j : Int))) ∧ (max ((m * d - n * (j : Int)) * k) (-((m * d - n * (j : Int)) * k)) = max ((z * d - n * k) * (j : Int)) (-((z * d - n * k) * (j : Int))) → ¬ m * k < z * (j : Int)))) :
    Calls Try.prog 11 #[.int .i16 n, .int .i16 d, .int .u8 (den : Int)] w fun e w' => e = .returned (.bool true) ∧ Below w.heap.size w w' := by
  have HB : Hid (Below w.heap.size w w) := Below.refl _ _
  have wn : IntKind.i64.wrap n = n := wrap_in (by omega) (by omega)
  have wd : IntKind.i64.wrap d = d := wrap_in (by omega) (by omega)
  have wk : IntKind.i64.wrap k = k := wrap_in (by omega) (by omega)
  have wN : IntKind.i64.wrap N = N := wrap_in (by omega) (by omega)
  have wz : IntKind.i64.wrap z = z := wrap_in (by omega) (by omega)
  have hdz : (d == 0) = false := beq_eq_false_iff_ne.2 (by omega)
  have hdl : decide (d < 0) = false := decide_eq_false (by omega)
  go_enter Try.func11, Try.ntmps11
  go_wp2_with fail
  refine (HX.out ▸ small_c w n d n0 n1 d0 d1).mono ?_
  rintro e w1 ⟨v, rfl, hv, hb1⟩
  have hv : IsF _ v (X) := hv
  obtain ⟨va, vb, rfl, h1, h2⟩ := hv
  obtain ⟨pX, mX, rfl, _, _⟩ := h1.shape
  obtain ⟨qX, nX, rfl, _, _⟩ := h2.shape
  have FX := Lib.hid (IsF.at_ h1 h2)
  clear h1 h2
  replace HB := Lib.hid (HB.out.trans (hb1.mono HB.out.size))
  clear hb1
  have g_X : w.heap.size ≤ w1.heap.size := by have := HB.out.size; omega
  go_wp2_with fail
  refine (Nearest_c _ _ X N (FX.out.alloc _) (by omega) (by omega)).mono ?_
  rw [HY.out]
  rintro e w2 ⟨v, rfl, hv, hb2⟩
  have hv : IsF _ v (fr true p q) := hv
  obtain ⟨va, vb, rfl, h1, h2⟩ := hv
  obtain ⟨pY, mY, rfl, _, _⟩ := h1.shape
  obtain ⟨qY, nY, rfl, _, _⟩ := h2.shape
  have FY := Lib.hid (IsF.at_ h1 h2)
  clear h1 h2
  obtain ⟨hb2, CX⟩ := after_new hb2
  replace CX := Lib.hid CX
  replace FX := Lib.hid (FX.out.after hb2)
  replace HB := Lib.hid (HB.out.trans (hb2.mono HB.out.size))
  clear hb2
  have d_X_Y : w1.heap.size < w2.heap.size := CX.out.lt
  have g_Y : w.heap.size ≤ w2.heap.size := by have := HB.out.size; omega
  obtain ⟨cX0, cX1, cX2⟩ := CX.out.cells3
  have ltX := CX.out.lt
  go_wp2_with fail
  refine (Valid_c _ _ (fr true p q) (FY.out.alloc _)).mono ?_
  intro e w3 hr
  obtain ⟨rfl, hb3⟩ := hr.yes HVY.out
  clear hr
  clear cX0 cX1 cX2 ltX
  obtain ⟨hb3, CY⟩ := after_new hb3
  replace CY := Lib.hid CY
  replace CX := Lib.hid (CX.out.after hb3)
  replace FX := Lib.hid (FX.out.after hb3)
  replace FY := Lib.hid (FY.out.after hb3)
  replace HB := Lib.hid (HB.out.trans (hb3.mono HB.out.size))
  clear hb3
  obtain ⟨_, i1, i2⟩ := FY.out.parts
  replace i1 : Sl _ _ (limbs p) := i1
  replace i2 : Sl _ _ (limbs q) := i2
  rw [HLQ.out] at i2
  obtain ⟨bq, oq, cq, eq1, _, _, kq, lq⟩ := i2.one_cell
  simp only [fr, HLQ.out, List.length_cons, List.length_nil, Nat.zero_add] at eq1
  injection eq1 with eq1 _ eq3
  subst eq1 eq3
  rw [HLP.out] at i1
  obtain ⟨bp, op, cp, ep1, _, _, kp, lp⟩ := i1.one_cell
  simp only [fr, HLP.out, List.length_cons, List.length_nil, Nat.zero_add] at ep1
  injection ep1 with ep1 _ ep3
  subst ep1 ep3
  simp only [fr, HLQ.out, HLP.out, List.length_cons, List.length_nil, Nat.zero_add] at CY
  clear i1 i2 FX FY
  obtain ⟨cX0, cX1, cX2⟩ := CX.out.cells3
  have ltX := CX.out.lt
  obtain ⟨cY0, cY1, cY2⟩ := CY.out.cells3
  have ltY := CY.out.lt
  go_upto_region 11 with fail
  have KQ := Lib.hid kq
  have KP := Lib.hid kp
  clear kq kp
  clear CX
  clear cX0 cX1 cX2 ltX cY0 cY1 cY2 ltY
  refine wp_region_gj (J := GJ _ (fun _ => SV (fun _ => none) (fun κ => match κ with | 0 => some (.pointer (some ⟨w2.heap.size, 2, none⟩)) | 1 => some (.slice (some ⟨bq, oq, none⟩) 1 nY) | 2 => some (.pointer (some ⟨bq, oq, none⟩)) | 3 => some (.int .u32 k) | 4 => some (.int .i64 k) | 5 => some (.int .i64 0) | 6 => some (.int .i64 k) | _ => none)) (fun _ _ w => Below w3.heap.size w3 w) _) (by kernel_rfl) ?_ ?_ (GJ.start (below_dr (Below.refl _ _)))
  · intro listed a w9 i hr hj
    obtain ⟨hi12, hun, _, _, _⟩ := ready_mem hr
    have h12 : i ∈ List.range 7 := List.mem_range.2 hi12
    simp only [List.range, List.range.loop, List.mem_cons, List.not_mem_nil, or_false] at h12
    obtain ⟨f, rfl, hcm, hf⟩ := hj.opened [73, 74, 75, 76, 77, 13, 14] (by kernel_rfl)
    have hcm : Below w3.heap.size w3 w9 := hcm
    rcases h12 with rfl | rfl | rfl | rfl | rfl | rfl | rfl
    · refine GJ.op hj (by kernel_rfl) hr rfl [73, 74, 75, 76, 77, 13, 14] (by kernel_rfl) (fun K hK => ?_)
      simp only [Act.put, List.foldl_cons, List.foldl_nil, List.setIfInBounds_toArray, List.set_cons_zero, List.set_cons_succ] at hK ⊢
      clear hj hf
      go_simp
      exact hK _ _ (fun k v _ _ h => h.keep (Below.refl _ _)) (fun t ht => SV.eq rfl rfl) hcm
    · have e1 : f 73 = .pointer (some ⟨w2.heap.size, 2, none⟩) := (hf 0 _ _ rfl rfl (up_dep hr (by kernel_rfl))).2 _ rfl
      obtain ⟨k0, k1, k2⟩ := (CY.out.after hcm).cells3
      have klt := (CY.out.after hcm).lt
      refine GJ.op hj (by kernel_rfl) hr rfl [73, 74, 75, 76, 77, 13, 14] (by kernel_rfl) (fun K hK => ?_)
      simp only [Act.put, List.foldl_cons, List.foldl_nil, List.setIfInBounds_toArray, List.set_cons_zero, List.set_cons_succ] at hK ⊢
      clear hj hf
      rw [e1] at hK ⊢
      clear e1
      go_simp
      exact hK _ _ (fun k v _ _ h => h.keep (Below.refl _ _)) (fun t ht => SV.eq rfl rfl) hcm
    · have e1 : f 74 = .slice (some ⟨bq, oq, none⟩) 1 nY := (hf 1 _ _ rfl rfl (up_dep hr (by kernel_rfl))).2 _ rfl
      refine GJ.op hj (by kernel_rfl) hr rfl [73, 74, 75, 76, 77, 13, 14] (by kernel_rfl) (fun K hK => ?_)
      simp only [Act.put, List.foldl_cons, List.foldl_nil, List.setIfInBounds_toArray, List.set_cons_zero, List.set_cons_succ] at hK ⊢
      clear hj hf
      rw [e1] at hK ⊢
      clear e1
      go_simp
      exact hK _ _ (fun k v _ _ h => h.keep (Below.refl _ _)) (fun t ht => SV.eq rfl rfl) hcm
    · have e1 : f 75 = .pointer (some ⟨bq, oq, none⟩) := (hf 2 _ _ rfl rfl (up_dep hr (by kernel_rfl))).2 _ rfl
      have kc := keep_cell hcm KQ.out
      have klt := World.block_lt_of_cell? _ _ kc
      simp only at klt
      refine GJ.op hj (by kernel_rfl) hr rfl [73, 74, 75, 76, 77, 13, 14] (by kernel_rfl) (fun K hK => ?_)
      simp only [Act.put, List.foldl_cons, List.foldl_nil, List.setIfInBounds_toArray, List.set_cons_zero, List.set_cons_succ] at hK ⊢
      clear hj hf
      rw [e1] at hK ⊢
      clear e1
      go_simp
      exact hK _ _ (fun k v _ _ h => h.keep (Below.refl _ _)) (fun t ht => SV.eq rfl rfl) hcm
    · have e1 : f 76 = .int .u32 k := (hf 3 _ _ rfl rfl (up_dep hr (by kernel_rfl))).2 _ rfl
      refine GJ.op hj (by kernel_rfl) hr rfl [73, 74, 75, 76, 77, 13, 14] (by kernel_rfl) (fun K hK => ?_)
      simp only [Act.put, List.foldl_cons, List.foldl_nil, List.setIfInBounds_toArray, List.set_cons_zero, List.set_cons_succ] at hK ⊢
      clear hj hf
      rw [e1] at hK ⊢
      clear e1
      go_simp
      exact hK _ _ (fun k v _ _ h => h.keep (Below.refl _ _)) (fun t ht => SV.eq rfl rfl) hcm
    · refine GJ.op hj (by kernel_rfl) hr rfl [73, 74, 75, 76, 77, 13, 14] (by kernel_rfl) (fun K hK => ?_)
      simp only [Act.put, List.foldl_cons, List.foldl_nil, List.setIfInBounds_toArray, List.set_cons_zero, List.set_cons_succ] at hK ⊢
      clear hj hf
      go_simp
      exact hK _ _ (fun k v _ _ h => h.keep (Below.refl _ _)) (fun t ht => SV.eq rfl rfl) hcm
    · have e1 : f 77 = .int .i64 k := (hf 4 _ _ rfl rfl (up_dep hr (by kernel_rfl))).2 _ rfl
      refine GJ.op hj (by kernel_rfl) hr rfl [73, 74, 75, 76, 77, 13, 14] (by kernel_rfl) (fun K hK => ?_)
      simp only [Act.put, List.foldl_cons, List.foldl_nil, List.setIfInBounds_toArray, List.set_cons_zero, List.set_cons_succ] at hK ⊢
      clear hj hf
      rw [e1] at hK ⊢
      clear e1
      go_simp
      exact hK _ _ (fun k v _ _ h => h.keep (Below.refl _ _)) (fun t ht => SV.eq rfl rfl) hcm
  · intro listed a w15 hr hj
    have hu : ∀ k, k < 7 → up listed k := fun k hk => all_up (by kernel_rfl) hj.lsize hr k hk
    obtain ⟨f, rfl, hcm, hf⟩ := hj.opened [73, 74, 75, 76, 77, 13, 14] (by kernel_rfl)
    replace hcm : Below w3.heap.size w3 w15 := hcm
    have e13 : f 13 = .int .i64 0 := (hf 5 _ _ rfl rfl (hu 5 (by omega))).2 _ rfl
    have e14 : f 14 = .int .i64 k := (hf 6 _ _ rfl rfl (hu 6 (by omega))).2 _ rfl
    replace HB : Hid (Below w.heap.size w w15) := Lib.hid (HB.out.trans (hcm.mono HB.out.size))
    replace CY := Lib.hid (CY.out.after hcm)
    replace lq := Nat.lt_of_lt_of_le lq hcm.size
    have kq := keep_cell hcm KQ.out
    have kp := keep_cell hcm KP.out
    replace lp := Nat.lt_of_lt_of_le lp hcm.size
    clear hf hj hr hu hcm KQ KP
    simp only [List.foldl_cons, List.foldl_nil, List.setIfInBounds_toArray, List.set_cons_zero, List.set_cons_succ]
    rw [e13, e14]
    clear e13 e14
    generalize f 73 = g73
    generalize f 74 = g74
    generalize f 75 = g75
    generalize f 76 = g76
    generalize f 77 = g77
    clear f
    obtain ⟨cY0, cY1, cY2⟩ := CY.out.cells3
    have ltY := CY.out.lt
    go_wp2_with fail
    clear cY0 cY1 cY2 ltY
    clear CY HX HY HVY HLQ HLP kq lq kp lp
    clear g_X d_X_Y g_Y
    go_loopg [15] (40 + 1) (fun g t wx => ∃ j : Nat, 1 ≤ j ∧ (j : Int) ≤ N + 1 ∧ g = 42 - j ∧ t = .int .i64 (j : Int) ∧ Hid (Below w.heap.size w wx))
    case atStart => exact ⟨1, Nat.le_refl _, by omega, rfl, rfl, HB.out⟩
    case round =>
      obtain ⟨j, hj1, hjN, rfl, rfl, hbl⟩ := hrel
      clear HB
      by_cases hlt : (j : Int) ≤ N
      · have hdj : decide ((j : Int) ≤ N) = true := decide_eq_true hlt
        go_wp2_with fail
        have B0 := Lib.hid hbl.out
        clear hbl
        go_loopg [16] 2 (fun g t wx => ∃ i : Nat, i ≤ 2 ∧ g = 2 - i ∧ t = .int .i64 (i : Int) ∧ Hid (Below w.heap.size w wx))
        case atStart => exact ⟨0, by omega, rfl, rfl, B0.out⟩
        case round =>
          obtain ⟨i, hi2, rfl, rfl, hbl⟩ := hrel
          clear B0
          by_cases hil : i < 2
          · have hdi : decide ((i : Int) < 2) = true := decide_eq_true (by omega)
            obtain ⟨b1a, b1b⟩ := mulb (x := n) (y := (j : Int)) (X := 32768) (Y := 40) (by omega) (by omega) (by omega) (by omega)
            obtain ⟨b2a, b2b⟩ := floor_bd (n := n * (j : Int)) (d := d) (X := 32768 * 40) (by omega) b1a b1b
            obtain ⟨G, hG⟩ : ∃ G, n * (j : Int) / d = G := ⟨_, rfl⟩
            rw [hG] at b2a b2b
            obtain ⟨M, hM⟩ : ∃ M, G + (i : Int) = M := ⟨_, rfl⟩
            have bMa : -1310723 ≤ M := by omega
            have bMb : M ≤ 1310723 := by omega
            obtain ⟨f1, f2⟩ := HL.out M j hj1 hlt
            obtain ⟨b3a, b3b⟩ := mulb (x := z) (y := d) (X := 32768) (Y := 32768) (by omega) (by omega) (by omega) (by omega)
            obtain ⟨b4a, b4b⟩ := mulb (x := n) (y := k) (X := 32768) (Y := 40) (by omega) (by omega) (by omega) (by omega)
            obtain ⟨b5a, b5b⟩ := mulb (x := M) (y := d) (X := 1310723) (Y := 32768) (by omega) (by omega) (by omega) (by omega)
            obtain ⟨b6a, b6b⟩ := mulb (x := M) (y := k) (X := 1310723) (Y := 40) (by omega) (by omega) (by omega) (by omega)
            obtain ⟨b7a, b7b⟩ := mulb (x := z) (y := (j : Int)) (X := 32768) (Y := 40) (by omega) (by omega) (by omega) (by omega)
            have bdum := True.intro
            obtain ⟨b8a, b8b⟩ := mulb (x := z * d - n * k) (y := (j : Int)) (X := 2000000000) (Y := 40) (by omega) (by omega) (by omega) (by omega)
            obtain ⟨b9a, b9b⟩ := mulb (x := M * d - n * (j : Int)) (y := k) (X := 50000000000) (Y := 40) (by omega) (by omega) (by omega) (by omega)
            obtain ⟨U, hU⟩ : ∃ U, (z * d - n * k) * (j : Int) = U := ⟨_, rfl⟩
            obtain ⟨V, hV⟩ : ∃ V, (M * d - n * (j : Int)) * k = V := ⟨_, rfl⟩
            rw [hU] at b8a b8b f1 f2
            rw [hV] at b9a b9b f1 f2
            obtain ⟨UA, hUA⟩ : ∃ x, max U (-U) = x := ⟨_, rfl⟩
            obtain ⟨VA, hVA⟩ : ∃ x, max V (-V) = x := ⟨_, rfl⟩
            rw [hUA, hVA] at f1 f2
            have hlt1 : decide (VA < UA) = false := decide_eq_false (by omega)
            have hG2 := Lib.hid hG
            clear hG f1
            go_wp2_with fail
            refine (floor_c _ (n * (j : Int)) d (by omega) (by omega) (by omega)).mono ?_
            rw [hG2.out]
            rintro e w20 ⟨rfl, hb20⟩
            replace hbl := Lib.hid (hbl.out.trans (hb20.mono hbl.out.size))
            clear hb20 hG2
            by_cases he : VA = UA
            · have f3 := f2 he
              have hc : decide (M * k < z * (j : Int)) = false := decide_eq_false (by omega)
              have hq : (VA == UA) = true := by rw [he]; exact beq_self_eq_true _
              clear f2 f3 he
              go_wp2_with fail
              go_roundg (2 - (i + 1))
              case measure => omega
              case rel => exact ⟨i + 1, by omega, rfl, by go_num, hbl⟩
            · have hq : (VA == UA) = false := beq_eq_false_iff_ne.2 he
              clear f2 he
              go_wp2_with fail
              go_roundg (2 - (i + 1))
              case measure => omega
              case rel => exact ⟨i + 1, by omega, rfl, by go_num, hbl⟩
          · obtain rfl : i = 2 := by omega
            go_wp2_with fail
            go_roundg (42 - (j + 1))
            case measure => omega
            case rel => exact ⟨j + 1, by omega, by omega, rfl, by go_num, hbl⟩
      · have hdj : decide ((j : Int) ≤ N) = false := decide_eq_false hlt
        go_wp2_with fail
        refine (rworks_c _).mono ?_
        rintro e w21 ⟨rfl, hb21⟩
        replace hbl := Lib.hid (hbl.out.trans (hb21.mono hbl.out.size))
        clear hb21
        go_wp2_with fail
        go_ret
        exact ⟨rfl, hbl.out⟩
end Go.Proofs.Ytaojdlcailpheaa
