/- Syntax, the reference: name, its drawn region. -/
import Derived.Test.YtganlldidjbpiaaGreatDoorQSyU4
import Derived.Test.YtganlldidjbpiaaGreatDoorK19
set_option linter.unusedVariables false
namespace Go.Proofs.YtganlldidjbpiaaGreatDoor
open Go.RowKit Go.Shelf

set_option maxRecDepth 100000 in
set_option maxHeartbeats 8000000 in
theorem rname_err (ops : Array Oper) (hops : (Tryz.f84.body.bind (regOf 1)) = some ops) {w : World} {p : Nat} {Q : Exit → Act → World → Prop} {x1 x2 x3 x4 x5 x6 x7 x8 x9 x10 x11 x12 x13 x14 x15 x16 x17 x18 x19 x20 x21 x22 x23 x24 x25 x26 x27 x28 x29 x30 x31 x32 x33 x34 x35 x36 x37 x38 x39 x40 x41 x42 x43 x44 x45 x46 x47 x48 x49 x50 x51 x52 x53 x54 x55 x56 x57 x58 x59 x60 x61 x62 x63 x64 x65 x66 x67 x68 : Value} (c3 : w.cell? ⟨p, 3, none⟩ = some (.int .i64 4))
    (hQ : ∀ (W : World) (y3 y4 y5 y6 y7 y8 y9 y10 y11 y12 y13 y14 y15 y16 y17 y18 y19 y20 y21 y22 y23 y24 y25 y26 y27 y28 y29 y30 y31 y32 y33 y34 y35 y36 y37 y38 y39 y40 y41 y42 y43 y44 y45 y46 : Value), Below w.heap.size w W → Q .normal ⟨[.pointer (some ⟨p, 0, none⟩), x1, x2, y3, y4, y5, y6, y7, y8, y9, y10, y11, y12, y13, y14, y15, y16, y17, y18, y19, y20, y21, y22, y23, y24, y25, y26, y27, y28, y29, y30, y31, y32, y33, y34, y35, y36, y37, y38, y39, y40, y41, y42, y43, y44, y45, y46, .bool true, x48, x49, x50, x51, x52, x53, x54, x55, x56, x57, x58, x59, x60, x61, x62, x63, x64, x65, x66, x67, x68].toArray, []⟩ W) :
    (Code.region 1 ops true).wp Tryz.prog Q ⟨[.pointer (some ⟨p, 0, none⟩), x1, x2, x3, x4, x5, x6, x7, x8, x9, x10, x11, x12, x13, x14, x15, x16, x17, x18, x19, x20, x21, x22, x23, x24, x25, x26, x27, x28, x29, x30, x31, x32, x33, x34, x35, x36, x37, x38, x39, x40, x41, x42, x43, x44, x45, x46, x47, x48, x49, x50, x51, x52, x53, x54, x55, x56, x57, x58, x59, x60, x61, x62, x63, x64, x65, x66, x67, x68].toArray, []⟩ w := by
  simp only [Tryz.f84, Option.bind_some, regOf] at hops
  replace hops := Option.some.inj hops
  subst hops
  replace hQ := Lib.hid hQ

  refine wp_region_gj (J := GJ _ (SKS (S := (fun _ => False)) (fun κ => match κ with | 0 => KS.eq (.pointer (some ⟨p, 0, none⟩)) | 1 => KS.eq (.pointer (some ⟨p, 0, none⟩)) | 2 => KS.eq (.pointer (some ⟨p, 3, none⟩)) | 3 => KS.eq (.int .i64 4) | 4 => KS.eq (.bool true) | 5 => KS.eq (.bool true) | 6 => KS.eq undef | 7 => KS.eq undef | 8 => KS.eq undef | 9 => KS.eq undef | 10 => KS.eq undef | 11 => KS.eq undef | 12 => KS.eq undef | 13 => KS.eq undef | 14 => KS.eq undef | 15 => KS.eq undef | 16 => KS.eq (.bool true) | 17 => KS.eq (.bool true) | 18 => KS.eq undef | 19 => KS.eq undef | 20 => KS.eq undef | 21 => KS.eq undef | 22 => KS.eq undef | 23 => KS.eq undef | 24 => KS.eq undef | 25 => KS.eq undef | 26 => KS.eq undef | 27 => KS.eq undef | 28 => KS.eq undef | 29 => KS.eq undef | 30 => KS.eq (.bool true) | 31 => KS.eq (.bool true) | 32 => KS.eq undef | 33 => KS.eq undef | 34 => KS.eq undef | 35 => KS.eq undef | 36 => KS.eq undef | 37 => KS.eq undef | 38 => KS.eq undef | 39 => KS.eq undef | 40 => KS.eq undef | 41 => KS.eq undef | 42 => KS.eq undef | 43 => KS.eq undef | 44 => KS.eq (.bool true) | _ => KS.any)) (fun _ _ u => Below w.heap.size w u) _) (by kernel_rfl) ?_ ?_ (GJ.start (below_dr (Below.refl _ _)))
  · intro listed a w9 i hr hj
    obtain ⟨hi12, hun, _, _, _⟩ := ready_mem hr
    have h12 : i ∈ List.range 45 := List.mem_range.2 hi12
    simp only [List.range, List.range.loop, List.mem_cons, List.not_mem_nil, or_false] at h12
    obtain ⟨f, hae, hcm, hf, hdo, hdi⟩ := hj.open3 [3, 4, 5, 6, 7, 8, 9, 10, 11, 12, 13, 14, 15, 16, 17, 18, 19, 20, 21, 22, 23, 24, 25, 26, 27, 28, 29, 30, 31, 32, 33, 34, 35, 36, 37, 38, 39, 40, 41, 42, 43, 44, 45, 46, 47] (by kernel_rfl) (by kernel_rfl)
    simp only [List.foldl_cons, List.foldl_nil, List.setIfInBounds_toArray, List.set_cons_zero, List.set_cons_succ] at hae
    subst hae
    replace hcm : Below w.heap.size w w9 := hcm
    rcases h12 with rfl | rfl | rfl | rfl | rfl | rfl | rfl | rfl | rfl | rfl | rfl | rfl | rfl | rfl | rfl | rfl | rfl | rfl | rfl | rfl | rfl | rfl | rfl | rfl | rfl | rfl | rfl | rfl | rfl | rfl | rfl | rfl | rfl | rfl | rfl | rfl | rfl | rfl | rfl | rfl | rfl | rfl | rfl | rfl | rfl
    · refine GJ.op hj hdo hr rfl _ hdi (fun K hK => ?_)
      clear hj hf hdo hdi
      go_simp
      exact hK _ _ (fun k v _ _ h => h) (fun t ht => rfl) hcm
    · have e1 : f 3 = .pointer (some ⟨p, 0, none⟩) := hf 0 _ _ rfl rfl (up_dep hr (by kernel_rfl))
      obtain ⟨kc, klt⟩ := kcl hcm c3
      refine GJ.op hj hdo hr rfl _ hdi (fun K hK => ?_)
      clear hj hf hdo hdi
      rw [e1] at hK ⊢
      clear e1
      go_simp
      exact hK _ _ (fun k v _ _ h => h) (fun t ht => rfl) hcm
    · have e1 : f 4 = .pointer (some ⟨p, 0, none⟩) := hf 1 _ _ rfl rfl (up_dep hr (by kernel_rfl))
      refine GJ.op hj hdo hr rfl _ hdi (fun K hK => ?_)
      clear hj hf hdo hdi
      rw [e1] at hK ⊢
      clear e1
      go_simp
      exact hK _ _ (fun k v _ _ h => h) (fun t ht => rfl) hcm
    · have e1 : f 5 = .pointer (some ⟨p, 3, none⟩) := hf 2 _ _ rfl rfl (up_dep hr (by kernel_rfl))
      obtain ⟨kc, klt⟩ := kcl hcm c3
      refine GJ.op hj hdo hr rfl _ hdi (fun K hK => ?_)
      clear hj hf hdo hdi
      rw [e1] at hK ⊢
      clear e1
      go_simp
      exact hK _ _ (fun k v _ _ h => h) (fun t ht => rfl) hcm
    · have e1 : f 6 = .int .i64 4 := hf 3 _ _ rfl rfl (up_dep hr (by kernel_rfl))
      refine GJ.op hj hdo hr rfl _ hdi (fun K hK => ?_)
      clear hj hf hdo hdi
      rw [e1] at hK ⊢
      clear e1
      go_simp
      exact hK _ _ (fun k v _ _ h => h) (fun t ht => rfl) hcm
    · have e1 : f 7 = .bool true := hf 4 _ _ rfl rfl (up_dep hr (by kernel_rfl))
      refine GJ.op hj hdo hr rfl _ hdi (fun K hK => ?_)
      clear hj hf hdo hdi
      rw [e1] at hK ⊢
      clear e1
      go_simp
      exact hK _ _ (fun k v _ _ h => h) (fun t ht => rfl) hcm
    · have gg : f 8 = .bool true := hf 5 _ _ rfl rfl (up_dep hr (by kernel_rfl))
      refine GJ.no hj hdo hr rfl _ hdi rfl (j := 5) rfl rfl (c := true) gg rfl (fun k v _ _ h => h) (fun t ht => rfl) ?_
      exact hcm
    · have gg : f 8 = .bool true := hf 5 _ _ rfl rfl (up_dep hr (by kernel_rfl))
      refine GJ.no hj hdo hr rfl _ hdi rfl (j := 5) rfl rfl (c := true) gg rfl (fun k v _ _ h => h) (fun t ht => rfl) ?_
      exact hcm
    · have gg : f 8 = .bool true := hf 5 _ _ rfl rfl (up_dep hr (by kernel_rfl))
      refine GJ.no hj hdo hr rfl _ hdi rfl (j := 5) rfl rfl (c := true) gg rfl (fun k v _ _ h => h) (fun t ht => rfl) ?_
      exact hcm
    · have gg : f 8 = .bool true := hf 5 _ _ rfl rfl (up_dep hr (by kernel_rfl))
      refine GJ.no hj hdo hr rfl _ hdi rfl (j := 5) rfl rfl (c := true) gg rfl (fun k v _ _ h => h) (fun t ht => rfl) ?_
      exact hcm
    · have gg : f 8 = .bool true := hf 5 _ _ rfl rfl (up_dep hr (by kernel_rfl))
      refine GJ.no hj hdo hr rfl _ hdi rfl (j := 5) rfl rfl (c := true) gg rfl (fun k v _ _ h => h) (fun t ht => rfl) ?_
      exact hcm
    · have gg : f 8 = .bool true := hf 5 _ _ rfl rfl (up_dep hr (by kernel_rfl))
      refine GJ.no hj hdo hr rfl _ hdi rfl (j := 5) rfl rfl (c := true) gg rfl (fun k v _ _ h => h) (fun t ht => rfl) ?_
      exact hcm
    · have gg : f 8 = .bool true := hf 5 _ _ rfl rfl (up_dep hr (by kernel_rfl))
      refine GJ.no hj hdo hr rfl _ hdi rfl (j := 5) rfl rfl (c := true) gg rfl (fun k v _ _ h => h) (fun t ht => rfl) ?_
      exact hcm
    · have gg : f 8 = .bool true := hf 5 _ _ rfl rfl (up_dep hr (by kernel_rfl))
      refine GJ.no hj hdo hr rfl _ hdi rfl (j := 5) rfl rfl (c := true) gg rfl (fun k v _ _ h => h) (fun t ht => rfl) ?_
      exact hcm
    · have gg : f 8 = .bool true := hf 5 _ _ rfl rfl (up_dep hr (by kernel_rfl))
      refine GJ.no hj hdo hr rfl _ hdi rfl (j := 5) rfl rfl (c := true) gg rfl (fun k v _ _ h => h) (fun t ht => rfl) ?_
      exact hcm
    · have gg : f 8 = .bool true := hf 5 _ _ rfl rfl (up_dep hr (by kernel_rfl))
      refine GJ.no hj hdo hr rfl _ hdi rfl (j := 5) rfl rfl (c := true) gg rfl (fun k v _ _ h => h) (fun t ht => rfl) ?_
      exact hcm
    · have e1 : f 8 = .bool true := hf 5 _ _ rfl rfl (up_dep hr (by kernel_rfl))
      refine GJ.op hj hdo hr rfl _ hdi (fun K hK => ?_)
      clear hj hf hdo hdi
      rw [e1] at hK ⊢
      clear e1
      go_simp
      exact hK _ _ (fun k v _ _ h => h) (fun t ht => rfl) hcm
    · have e1 : f 19 = .bool true := hf 16 _ _ rfl rfl (up_dep hr (by kernel_rfl))
      refine GJ.op hj hdo hr rfl _ hdi (fun K hK => ?_)
      clear hj hf hdo hdi
      rw [e1] at hK ⊢
      clear e1
      go_simp
      exact hK _ _ (fun k v _ _ h => h) (fun t ht => rfl) hcm
    · have gg : f 20 = .bool true := hf 17 _ _ rfl rfl (up_dep hr (by kernel_rfl))
      refine GJ.no hj hdo hr rfl _ hdi rfl (j := 17) rfl rfl (c := true) gg rfl (fun k v _ _ h => h) (fun t ht => rfl) ?_
      exact hcm
    · have gg : f 20 = .bool true := hf 17 _ _ rfl rfl (up_dep hr (by kernel_rfl))
      refine GJ.no hj hdo hr rfl _ hdi rfl (j := 17) rfl rfl (c := true) gg rfl (fun k v _ _ h => h) (fun t ht => rfl) ?_
      exact hcm
    · have gg : f 20 = .bool true := hf 17 _ _ rfl rfl (up_dep hr (by kernel_rfl))
      refine GJ.no hj hdo hr rfl _ hdi rfl (j := 17) rfl rfl (c := true) gg rfl (fun k v _ _ h => h) (fun t ht => rfl) ?_
      exact hcm
    · have gg : f 20 = .bool true := hf 17 _ _ rfl rfl (up_dep hr (by kernel_rfl))
      refine GJ.no hj hdo hr rfl _ hdi rfl (j := 17) rfl rfl (c := true) gg rfl (fun k v _ _ h => h) (fun t ht => rfl) ?_
      exact hcm
    · have gg : f 20 = .bool true := hf 17 _ _ rfl rfl (up_dep hr (by kernel_rfl))
      refine GJ.no hj hdo hr rfl _ hdi rfl (j := 17) rfl rfl (c := true) gg rfl (fun k v _ _ h => h) (fun t ht => rfl) ?_
      exact hcm
    · have gg : f 20 = .bool true := hf 17 _ _ rfl rfl (up_dep hr (by kernel_rfl))
      refine GJ.no hj hdo hr rfl _ hdi rfl (j := 17) rfl rfl (c := true) gg rfl (fun k v _ _ h => h) (fun t ht => rfl) ?_
      exact hcm
    · have gg : f 20 = .bool true := hf 17 _ _ rfl rfl (up_dep hr (by kernel_rfl))
      refine GJ.no hj hdo hr rfl _ hdi rfl (j := 17) rfl rfl (c := true) gg rfl (fun k v _ _ h => h) (fun t ht => rfl) ?_
      exact hcm
    · have gg : f 20 = .bool true := hf 17 _ _ rfl rfl (up_dep hr (by kernel_rfl))
      refine GJ.no hj hdo hr rfl _ hdi rfl (j := 17) rfl rfl (c := true) gg rfl (fun k v _ _ h => h) (fun t ht => rfl) ?_
      exact hcm
    · have gg : f 20 = .bool true := hf 17 _ _ rfl rfl (up_dep hr (by kernel_rfl))
      refine GJ.no hj hdo hr rfl _ hdi rfl (j := 17) rfl rfl (c := true) gg rfl (fun k v _ _ h => h) (fun t ht => rfl) ?_
      exact hcm
    · have gg : f 20 = .bool true := hf 17 _ _ rfl rfl (up_dep hr (by kernel_rfl))
      refine GJ.no hj hdo hr rfl _ hdi rfl (j := 17) rfl rfl (c := true) gg rfl (fun k v _ _ h => h) (fun t ht => rfl) ?_
      exact hcm
    · have gg : f 20 = .bool true := hf 17 _ _ rfl rfl (up_dep hr (by kernel_rfl))
      refine GJ.no hj hdo hr rfl _ hdi rfl (j := 17) rfl rfl (c := true) gg rfl (fun k v _ _ h => h) (fun t ht => rfl) ?_
      exact hcm
    · have gg : f 20 = .bool true := hf 17 _ _ rfl rfl (up_dep hr (by kernel_rfl))
      refine GJ.no hj hdo hr rfl _ hdi rfl (j := 17) rfl rfl (c := true) gg rfl (fun k v _ _ h => h) (fun t ht => rfl) ?_
      exact hcm
    · have e1 : f 20 = .bool true := hf 17 _ _ rfl rfl (up_dep hr (by kernel_rfl))
      refine GJ.op hj hdo hr rfl _ hdi (fun K hK => ?_)
      clear hj hf hdo hdi
      rw [e1] at hK ⊢
      clear e1
      go_simp
      exact hK _ _ (fun k v _ _ h => h) (fun t ht => rfl) hcm
    · have e1 : f 33 = .bool true := hf 30 _ _ rfl rfl (up_dep hr (by kernel_rfl))
      refine GJ.op hj hdo hr rfl _ hdi (fun K hK => ?_)
      clear hj hf hdo hdi
      rw [e1] at hK ⊢
      clear e1
      go_simp
      exact hK _ _ (fun k v _ _ h => h) (fun t ht => rfl) hcm
    · have gg : f 34 = .bool true := hf 31 _ _ rfl rfl (up_dep hr (by kernel_rfl))
      refine GJ.no hj hdo hr rfl _ hdi rfl (j := 31) rfl rfl (c := true) gg rfl (fun k v _ _ h => h) (fun t ht => rfl) ?_
      exact hcm
    · have gg : f 34 = .bool true := hf 31 _ _ rfl rfl (up_dep hr (by kernel_rfl))
      refine GJ.no hj hdo hr rfl _ hdi rfl (j := 31) rfl rfl (c := true) gg rfl (fun k v _ _ h => h) (fun t ht => rfl) ?_
      exact hcm
    · have gg : f 34 = .bool true := hf 31 _ _ rfl rfl (up_dep hr (by kernel_rfl))
      refine GJ.no hj hdo hr rfl _ hdi rfl (j := 31) rfl rfl (c := true) gg rfl (fun k v _ _ h => h) (fun t ht => rfl) ?_
      exact hcm
    · have gg : f 34 = .bool true := hf 31 _ _ rfl rfl (up_dep hr (by kernel_rfl))
      refine GJ.no hj hdo hr rfl _ hdi rfl (j := 31) rfl rfl (c := true) gg rfl (fun k v _ _ h => h) (fun t ht => rfl) ?_
      exact hcm
    · have gg : f 34 = .bool true := hf 31 _ _ rfl rfl (up_dep hr (by kernel_rfl))
      refine GJ.no hj hdo hr rfl _ hdi rfl (j := 31) rfl rfl (c := true) gg rfl (fun k v _ _ h => h) (fun t ht => rfl) ?_
      exact hcm
    · have gg : f 34 = .bool true := hf 31 _ _ rfl rfl (up_dep hr (by kernel_rfl))
      refine GJ.no hj hdo hr rfl _ hdi rfl (j := 31) rfl rfl (c := true) gg rfl (fun k v _ _ h => h) (fun t ht => rfl) ?_
      exact hcm
    · have gg : f 34 = .bool true := hf 31 _ _ rfl rfl (up_dep hr (by kernel_rfl))
      refine GJ.no hj hdo hr rfl _ hdi rfl (j := 31) rfl rfl (c := true) gg rfl (fun k v _ _ h => h) (fun t ht => rfl) ?_
      exact hcm
    · have gg : f 34 = .bool true := hf 31 _ _ rfl rfl (up_dep hr (by kernel_rfl))
      refine GJ.no hj hdo hr rfl _ hdi rfl (j := 31) rfl rfl (c := true) gg rfl (fun k v _ _ h => h) (fun t ht => rfl) ?_
      exact hcm
    · have gg : f 34 = .bool true := hf 31 _ _ rfl rfl (up_dep hr (by kernel_rfl))
      refine GJ.no hj hdo hr rfl _ hdi rfl (j := 31) rfl rfl (c := true) gg rfl (fun k v _ _ h => h) (fun t ht => rfl) ?_
      exact hcm
    · have gg : f 34 = .bool true := hf 31 _ _ rfl rfl (up_dep hr (by kernel_rfl))
      refine GJ.no hj hdo hr rfl _ hdi rfl (j := 31) rfl rfl (c := true) gg rfl (fun k v _ _ h => h) (fun t ht => rfl) ?_
      exact hcm
    · have gg : f 34 = .bool true := hf 31 _ _ rfl rfl (up_dep hr (by kernel_rfl))
      refine GJ.no hj hdo hr rfl _ hdi rfl (j := 31) rfl rfl (c := true) gg rfl (fun k v _ _ h => h) (fun t ht => rfl) ?_
      exact hcm
    · have gg : f 34 = .bool true := hf 31 _ _ rfl rfl (up_dep hr (by kernel_rfl))
      refine GJ.no hj hdo hr rfl _ hdi rfl (j := 31) rfl rfl (c := true) gg rfl (fun k v _ _ h => h) (fun t ht => rfl) ?_
      exact hcm
    · have e1 : f 34 = .bool true := hf 31 _ _ rfl rfl (up_dep hr (by kernel_rfl))
      refine GJ.op hj hdo hr rfl _ hdi (fun K hK => ?_)
      clear hj hf hdo hdi
      rw [e1] at hK ⊢
      clear e1
      go_simp
      exact hK _ _ (fun k v _ _ h => h) (fun t ht => rfl) hcm
  · intro listed a w10 hr hj
    have hu : ∀ k, k < 45 → up listed k := fun k hk => all_up (by kernel_rfl) hj.lsize hr k hk
    obtain ⟨f, hae, hcm, hf⟩ := hj.opened [3, 4, 5, 6, 7, 8, 9, 10, 11, 12, 13, 14, 15, 16, 17, 18, 19, 20, 21, 22, 23, 24, 25, 26, 27, 28, 29, 30, 31, 32, 33, 34, 35, 36, 37, 38, 39, 40, 41, 42, 43, 44, 45, 46, 47] (by kernel_rfl)
    simp only [List.foldl_cons, List.foldl_nil, List.setIfInBounds_toArray, List.set_cons_zero, List.set_cons_succ] at hae
    subst hae
    replace hcm : Below w.heap.size w w10 := hcm
    have E44 : f 47 = .bool true := hf 44 _ _ rfl rfl (hu 44 (by omega))
    have HCM := Lib.hid hcm
    clear hcm hf hj hr hu
    rw [E44]
    clear E44
    exact hQ.out _ (f 3) (f 4) (f 5) (f 6) (f 7) (f 8) (f 9) (f 10) (f 11) (f 12) (f 13) (f 14) (f 15) (f 16) (f 17) (f 18) (f 19) (f 20) (f 21) (f 22) (f 23) (f 24) (f 25) (f 26) (f 27) (f 28) (f 29) (f 30) (f 31) (f 32) (f 33) (f 34) (f 35) (f 36) (f 37) (f 38) (f 39) (f 40) (f 41) (f 42) (f 43) (f 44) (f 45) (f 46) HCM.out
set_option maxRecDepth 100000 in
set_option maxHeartbeats 8000000 in
theorem rname_nil (ops : Array Oper) (hops : (Tryz.f84.body.bind (regOf 1)) = some ops) {w : World} {p : Nat} {Q : Exit → Act → World → Prop} {x1 x2 x3 x4 x5 x6 x7 x8 x9 x10 x11 x12 x13 x14 x15 x16 x17 x18 x19 x20 x21 x22 x23 x24 x25 x26 x27 x28 x29 x30 x31 x32 x33 x34 x35 x36 x37 x38 x39 x40 x41 x42 x43 x44 x45 x46 x47 x48 x49 x50 x51 x52 x53 x54 x55 x56 x57 x58 x59 x60 x61 x62 x63 x64 x65 x66 x67 x68 : Value} {k n cap : Nat} {a0 : Option Addr} (c3 : w.cell? ⟨p, 3, none⟩ = some (.int .i64 0)) (c1 : w.cell? ⟨p, 1, none⟩ = some (.int .i64 (k : Int))) (c0 : w.cell? ⟨p, 0, none⟩ = some (.slice a0 n cap)) (hk : n ≤ k)
    (hQ : ∀ (W : World) (y3 y4 y5 y6 y7 y8 y9 y10 y11 y12 y13 y14 y15 y16 y17 y18 y19 y20 y21 y22 y23 y24 y25 y26 y27 y28 y29 y30 y31 y32 y33 y34 y35 y36 y37 y38 y39 y40 y41 y42 y43 y44 y45 y46 : Value), Below w.heap.size w W → Q .normal ⟨[.pointer (some ⟨p, 0, none⟩), x1, x2, y3, y4, y5, y6, y7, y8, y9, y10, y11, y12, y13, y14, y15, y16, y17, y18, y19, y20, y21, y22, y23, y24, y25, y26, y27, y28, y29, y30, y31, y32, y33, y34, y35, y36, y37, y38, y39, y40, y41, y42, y43, y44, y45, y46, .bool true, x48, x49, x50, x51, x52, x53, x54, x55, x56, x57, x58, x59, x60, x61, x62, x63, x64, x65, x66, x67, x68].toArray, []⟩ W) :
    (Code.region 1 ops true).wp Tryz.prog Q ⟨[.pointer (some ⟨p, 0, none⟩), x1, x2, x3, x4, x5, x6, x7, x8, x9, x10, x11, x12, x13, x14, x15, x16, x17, x18, x19, x20, x21, x22, x23, x24, x25, x26, x27, x28, x29, x30, x31, x32, x33, x34, x35, x36, x37, x38, x39, x40, x41, x42, x43, x44, x45, x46, x47, x48, x49, x50, x51, x52, x53, x54, x55, x56, x57, x58, x59, x60, x61, x62, x63, x64, x65, x66, x67, x68].toArray, []⟩ w := by
  simp only [Tryz.f84, Option.bind_some, regOf] at hops
  replace hops := Option.some.inj hops
  subst hops
  replace hQ := Lib.hid hQ
  have Q7 : Hid (decide (n ≤ k) = true) := decide_eq_true hk
  have Q8 : Hid (n ≤ k) := hk
  have Q1 : Hid ((n : Int) ≤ (k : Int)) := by show _ ≤ _; omega
  have Q2 : Hid (decide ((n : Int) ≤ (k : Int)) = true) := decide_eq_true (by omega)
  have Q3 : Hid ((0 : Int) ≤ (k : Int)) := by show _ ≤ _; omega
  refine wp_region_gj (J := GJ _ (SKS (S := (fun _ => False)) (fun κ => match κ with | 0 => KS.eq (.pointer (some ⟨p, 0, none⟩)) | 1 => KS.eq (.pointer (some ⟨p, 0, none⟩)) | 2 => KS.eq (.pointer (some ⟨p, 3, none⟩)) | 3 => KS.eq (.int .i64 0) | 4 => KS.eq (.bool false) | 5 => KS.eq (.bool false) | 6 => KS.eq (.pointer (some ⟨p, 0, none⟩)) | 7 => KS.eq (.pointer (some ⟨p, 0, none⟩)) | 8 => KS.eq (.pointer (some ⟨p, 1, none⟩)) | 9 => KS.eq (.int .i64 (k : Int)) | 10 => KS.eq (.pointer (some ⟨p, 0, none⟩)) | 11 => KS.eq (.pointer (some ⟨p, 0, none⟩)) | 12 => KS.eq (.pointer (some ⟨p, 0, none⟩)) | 13 => KS.eq (.slice a0 n cap) | 14 => KS.eq (.int .i64 (n : Int)) | 15 => KS.eq (.bool true) | 16 => KS.eq (.bool true) | 17 => KS.eq (.bool true) | 18 => KS.eq undef | 19 => KS.eq undef | 20 => KS.eq undef | 21 => KS.eq undef | 22 => KS.eq undef | 23 => KS.eq undef | 24 => KS.eq undef | 25 => KS.eq undef | 26 => KS.eq undef | 27 => KS.eq undef | 28 => KS.eq undef | 29 => KS.eq undef | 30 => KS.eq (.bool true) | 31 => KS.eq (.bool true) | 32 => KS.eq undef | 33 => KS.eq undef | 34 => KS.eq undef | 35 => KS.eq undef | 36 => KS.eq undef | 37 => KS.eq undef | 38 => KS.eq undef | 39 => KS.eq undef | 40 => KS.eq undef | 41 => KS.eq undef | 42 => KS.eq undef | 43 => KS.eq undef | 44 => KS.eq (.bool true) | _ => KS.any)) (fun _ _ u => Below w.heap.size w u) _) (by kernel_rfl) ?_ ?_ (GJ.start (below_dr (Below.refl _ _)))
  · intro listed a w9 i hr hj
    obtain ⟨hi12, hun, _, _, _⟩ := ready_mem hr
    have h12 : i ∈ List.range 45 := List.mem_range.2 hi12
    simp only [List.range, List.range.loop, List.mem_cons, List.not_mem_nil, or_false] at h12
    obtain ⟨f, hae, hcm, hf, hdo, hdi⟩ := hj.open3 [3, 4, 5, 6, 7, 8, 9, 10, 11, 12, 13, 14, 15, 16, 17, 18, 19, 20, 21, 22, 23, 24, 25, 26, 27, 28, 29, 30, 31, 32, 33, 34, 35, 36, 37, 38, 39, 40, 41, 42, 43, 44, 45, 46, 47] (by kernel_rfl) (by kernel_rfl)
    simp only [List.foldl_cons, List.foldl_nil, List.setIfInBounds_toArray, List.set_cons_zero, List.set_cons_succ] at hae
    subst hae
    replace hcm : Below w.heap.size w w9 := hcm
    rcases h12 with rfl | rfl | rfl | rfl | rfl | rfl | rfl | rfl | rfl | rfl | rfl | rfl | rfl | rfl | rfl | rfl | rfl | rfl | rfl | rfl | rfl | rfl | rfl | rfl | rfl | rfl | rfl | rfl | rfl | rfl | rfl | rfl | rfl | rfl | rfl | rfl | rfl | rfl | rfl | rfl | rfl | rfl | rfl | rfl | rfl
    · refine GJ.op hj hdo hr rfl _ hdi (fun K hK => ?_)
      clear hj hf hdo hdi
      go_simp
      exact hK _ _ (fun k v _ _ h => h) (fun t ht => rfl) hcm
    · have e1 : f 3 = .pointer (some ⟨p, 0, none⟩) := hf 0 _ _ rfl rfl (up_dep hr (by kernel_rfl))
      obtain ⟨kc, klt⟩ := kcl hcm c3
      refine GJ.op hj hdo hr rfl _ hdi (fun K hK => ?_)
      clear hj hf hdo hdi
      rw [e1] at hK ⊢
      clear e1
      go_simp
      exact hK _ _ (fun k v _ _ h => h) (fun t ht => rfl) hcm
    · have e1 : f 4 = .pointer (some ⟨p, 0, none⟩) := hf 1 _ _ rfl rfl (up_dep hr (by kernel_rfl))
      refine GJ.op hj hdo hr rfl _ hdi (fun K hK => ?_)
      clear hj hf hdo hdi
      rw [e1] at hK ⊢
      clear e1
      go_simp
      exact hK _ _ (fun k v _ _ h => h) (fun t ht => rfl) hcm
    · have e1 : f 5 = .pointer (some ⟨p, 3, none⟩) := hf 2 _ _ rfl rfl (up_dep hr (by kernel_rfl))
      obtain ⟨kc, klt⟩ := kcl hcm c3
      refine GJ.op hj hdo hr rfl _ hdi (fun K hK => ?_)
      clear hj hf hdo hdi
      rw [e1] at hK ⊢
      clear e1
      go_simp
      exact hK _ _ (fun k v _ _ h => h) (fun t ht => rfl) hcm
    · have e1 : f 6 = .int .i64 0 := hf 3 _ _ rfl rfl (up_dep hr (by kernel_rfl))
      refine GJ.op hj hdo hr rfl _ hdi (fun K hK => ?_)
      clear hj hf hdo hdi
      rw [e1] at hK ⊢
      clear e1
      go_simp
      exact hK _ _ (fun k v _ _ h => h) (fun t ht => rfl) hcm
    · have e1 : f 7 = .bool false := hf 4 _ _ rfl rfl (up_dep hr (by kernel_rfl))
      refine GJ.op hj hdo hr rfl _ hdi (fun K hK => ?_)
      clear hj hf hdo hdi
      rw [e1] at hK ⊢
      clear e1
      go_simp
      exact hK _ _ (fun k v _ _ h => h) (fun t ht => rfl) hcm
    · have gg : f 8 = .bool false := hf 5 _ _ rfl rfl (up_dep hr (by kernel_rfl))
      refine GJ.yes hj hdo hr rfl _ hdi rfl (j := 5) rfl rfl (c := false) gg rfl (fun K hK => ?_)
      clear gg
      clear hj hf hdo hdi
      go_simp
      exact hK _ _ (fun k v _ _ h => h) (fun t ht => rfl) hcm
    · have gg : f 8 = .bool false := hf 5 _ _ rfl rfl (up_dep hr (by kernel_rfl))
      have e1 : f 9 = .pointer (some ⟨p, 0, none⟩) := hf 6 _ _ rfl rfl (up_dep hr (by kernel_rfl))
      obtain ⟨kc, klt⟩ := kcl hcm c3
      refine GJ.yes hj hdo hr rfl _ hdi rfl (j := 5) rfl rfl (c := false) gg rfl (fun K hK => ?_)
      clear gg
      clear hj hf hdo hdi
      rw [e1] at hK ⊢
      clear e1
      go_simp
      exact hK _ _ (fun k v _ _ h => h) (fun t ht => rfl) hcm
    · have gg : f 8 = .bool false := hf 5 _ _ rfl rfl (up_dep hr (by kernel_rfl))
      have e1 : f 10 = .pointer (some ⟨p, 0, none⟩) := hf 7 _ _ rfl rfl (up_dep hr (by kernel_rfl))
      refine GJ.yes hj hdo hr rfl _ hdi rfl (j := 5) rfl rfl (c := false) gg rfl (fun K hK => ?_)
      clear gg
      clear hj hf hdo hdi
      rw [e1] at hK ⊢
      clear e1
      go_simp
      exact hK _ _ (fun k v _ _ h => h) (fun t ht => rfl) hcm
    · have gg : f 8 = .bool false := hf 5 _ _ rfl rfl (up_dep hr (by kernel_rfl))
      have e1 : f 11 = .pointer (some ⟨p, 1, none⟩) := hf 8 _ _ rfl rfl (up_dep hr (by kernel_rfl))
      obtain ⟨kc, klt⟩ := kcl hcm c1
      refine GJ.yes hj hdo hr rfl _ hdi rfl (j := 5) rfl rfl (c := false) gg rfl (fun K hK => ?_)
      clear gg
      clear hj hf hdo hdi
      rw [e1] at hK ⊢
      clear e1
      go_simp
      exact hK _ _ (fun k v _ _ h => h) (fun t ht => rfl) hcm
    · have gg : f 8 = .bool false := hf 5 _ _ rfl rfl (up_dep hr (by kernel_rfl))
      refine GJ.yes hj hdo hr rfl _ hdi rfl (j := 5) rfl rfl (c := false) gg rfl (fun K hK => ?_)
      clear gg
      clear hj hf hdo hdi
      go_simp
      exact hK _ _ (fun k v _ _ h => h) (fun t ht => rfl) hcm
    · have gg : f 8 = .bool false := hf 5 _ _ rfl rfl (up_dep hr (by kernel_rfl))
      have e1 : f 13 = .pointer (some ⟨p, 0, none⟩) := hf 10 _ _ rfl rfl (up_dep hr (by kernel_rfl))
      obtain ⟨kc, klt⟩ := kcl hcm c3
      refine GJ.yes hj hdo hr rfl _ hdi rfl (j := 5) rfl rfl (c := false) gg rfl (fun K hK => ?_)
      clear gg
      clear hj hf hdo hdi
      rw [e1] at hK ⊢
      clear e1
      go_simp
      exact hK _ _ (fun k v _ _ h => h) (fun t ht => rfl) hcm
    · have gg : f 8 = .bool false := hf 5 _ _ rfl rfl (up_dep hr (by kernel_rfl))
      have e1 : f 14 = .pointer (some ⟨p, 0, none⟩) := hf 11 _ _ rfl rfl (up_dep hr (by kernel_rfl))
      refine GJ.yes hj hdo hr rfl _ hdi rfl (j := 5) rfl rfl (c := false) gg rfl (fun K hK => ?_)
      clear gg
      clear hj hf hdo hdi
      rw [e1] at hK ⊢
      clear e1
      go_simp
      exact hK _ _ (fun k v _ _ h => h) (fun t ht => rfl) hcm
    · have gg : f 8 = .bool false := hf 5 _ _ rfl rfl (up_dep hr (by kernel_rfl))
      have e1 : f 15 = .pointer (some ⟨p, 0, none⟩) := hf 12 _ _ rfl rfl (up_dep hr (by kernel_rfl))
      obtain ⟨kc, klt⟩ := kcl hcm c0
      refine GJ.yes hj hdo hr rfl _ hdi rfl (j := 5) rfl rfl (c := false) gg rfl (fun K hK => ?_)
      clear gg
      clear hj hf hdo hdi
      rw [e1] at hK ⊢
      clear e1
      go_simp
      exact hK _ _ (fun k v _ _ h => h) (fun t ht => rfl) hcm
    · have gg : f 8 = .bool false := hf 5 _ _ rfl rfl (up_dep hr (by kernel_rfl))
      have e1 : f 16 = .slice a0 n cap := hf 13 _ _ rfl rfl (up_dep hr (by kernel_rfl))
      refine GJ.yes hj hdo hr rfl _ hdi rfl (j := 5) rfl rfl (c := false) gg rfl (fun K hK => ?_)
      clear gg
      clear hj hf hdo hdi
      rw [e1] at hK ⊢
      clear e1
      go_simp
      exact hK _ _ (fun k v _ _ h => h) (fun t ht => rfl) hcm
    · have gg : f 8 = .bool false := hf 5 _ _ rfl rfl (up_dep hr (by kernel_rfl))
      have e1 : f 12 = .int .i64 (k : Int) := hf 9 _ _ rfl rfl (up_dep hr (by kernel_rfl))
      have e2 : f 17 = .int .i64 (n : Int) := hf 14 _ _ rfl rfl (up_dep hr (by kernel_rfl))
      have q1 := Q1.out
      have q2 := Q2.out
      have q3 := Q3.out
      have q7 := Q7.out
      have q8 := Q8.out
      refine GJ.yes hj hdo hr rfl _ hdi rfl (j := 5) rfl rfl (c := false) gg rfl (fun K hK => ?_)
      clear gg
      clear hj hf hdo hdi
      rw [e1, e2] at hK ⊢
      clear e1 e2
      go_simp
      exact hK _ _ (fun k v _ _ h => h) (fun t ht => rfl) hcm
    · have e1 : f 8 = .bool false := hf 5 _ _ rfl rfl (up_dep hr (by kernel_rfl))
      have e2 : f 18 = .bool true := hf 15 _ _ rfl rfl (up_dep hr (by kernel_rfl))
      refine GJ.op hj hdo hr rfl _ hdi (fun K hK => ?_)
      clear hj hf hdo hdi
      rw [e1, e2] at hK ⊢
      clear e1 e2
      go_simp
      exact hK _ _ (fun k v _ _ h => h) (fun t ht => rfl) hcm
    · have e1 : f 19 = .bool true := hf 16 _ _ rfl rfl (up_dep hr (by kernel_rfl))
      refine GJ.op hj hdo hr rfl _ hdi (fun K hK => ?_)
      clear hj hf hdo hdi
      rw [e1] at hK ⊢
      clear e1
      go_simp
      exact hK _ _ (fun k v _ _ h => h) (fun t ht => rfl) hcm
    · have gg : f 20 = .bool true := hf 17 _ _ rfl rfl (up_dep hr (by kernel_rfl))
      refine GJ.no hj hdo hr rfl _ hdi rfl (j := 17) rfl rfl (c := true) gg rfl (fun k v _ _ h => h) (fun t ht => rfl) ?_
      exact hcm
    · have gg : f 20 = .bool true := hf 17 _ _ rfl rfl (up_dep hr (by kernel_rfl))
      refine GJ.no hj hdo hr rfl _ hdi rfl (j := 17) rfl rfl (c := true) gg rfl (fun k v _ _ h => h) (fun t ht => rfl) ?_
      exact hcm
    · have gg : f 20 = .bool true := hf 17 _ _ rfl rfl (up_dep hr (by kernel_rfl))
      refine GJ.no hj hdo hr rfl _ hdi rfl (j := 17) rfl rfl (c := true) gg rfl (fun k v _ _ h => h) (fun t ht => rfl) ?_
      exact hcm
    · have gg : f 20 = .bool true := hf 17 _ _ rfl rfl (up_dep hr (by kernel_rfl))
      refine GJ.no hj hdo hr rfl _ hdi rfl (j := 17) rfl rfl (c := true) gg rfl (fun k v _ _ h => h) (fun t ht => rfl) ?_
      exact hcm
    · have gg : f 20 = .bool true := hf 17 _ _ rfl rfl (up_dep hr (by kernel_rfl))
      refine GJ.no hj hdo hr rfl _ hdi rfl (j := 17) rfl rfl (c := true) gg rfl (fun k v _ _ h => h) (fun t ht => rfl) ?_
      exact hcm
    · have gg : f 20 = .bool true := hf 17 _ _ rfl rfl (up_dep hr (by kernel_rfl))
      refine GJ.no hj hdo hr rfl _ hdi rfl (j := 17) rfl rfl (c := true) gg rfl (fun k v _ _ h => h) (fun t ht => rfl) ?_
      exact hcm
    · have gg : f 20 = .bool true := hf 17 _ _ rfl rfl (up_dep hr (by kernel_rfl))
      refine GJ.no hj hdo hr rfl _ hdi rfl (j := 17) rfl rfl (c := true) gg rfl (fun k v _ _ h => h) (fun t ht => rfl) ?_
      exact hcm
    · have gg : f 20 = .bool true := hf 17 _ _ rfl rfl (up_dep hr (by kernel_rfl))
      refine GJ.no hj hdo hr rfl _ hdi rfl (j := 17) rfl rfl (c := true) gg rfl (fun k v _ _ h => h) (fun t ht => rfl) ?_
      exact hcm
    · have gg : f 20 = .bool true := hf 17 _ _ rfl rfl (up_dep hr (by kernel_rfl))
      refine GJ.no hj hdo hr rfl _ hdi rfl (j := 17) rfl rfl (c := true) gg rfl (fun k v _ _ h => h) (fun t ht => rfl) ?_
      exact hcm
    · have gg : f 20 = .bool true := hf 17 _ _ rfl rfl (up_dep hr (by kernel_rfl))
      refine GJ.no hj hdo hr rfl _ hdi rfl (j := 17) rfl rfl (c := true) gg rfl (fun k v _ _ h => h) (fun t ht => rfl) ?_
      exact hcm
    · have gg : f 20 = .bool true := hf 17 _ _ rfl rfl (up_dep hr (by kernel_rfl))
      refine GJ.no hj hdo hr rfl _ hdi rfl (j := 17) rfl rfl (c := true) gg rfl (fun k v _ _ h => h) (fun t ht => rfl) ?_
      exact hcm
    · have gg : f 20 = .bool true := hf 17 _ _ rfl rfl (up_dep hr (by kernel_rfl))
      refine GJ.no hj hdo hr rfl _ hdi rfl (j := 17) rfl rfl (c := true) gg rfl (fun k v _ _ h => h) (fun t ht => rfl) ?_
      exact hcm
    · have e1 : f 20 = .bool true := hf 17 _ _ rfl rfl (up_dep hr (by kernel_rfl))
      refine GJ.op hj hdo hr rfl _ hdi (fun K hK => ?_)
      clear hj hf hdo hdi
      rw [e1] at hK ⊢
      clear e1
      go_simp
      exact hK _ _ (fun k v _ _ h => h) (fun t ht => rfl) hcm
    · have e1 : f 33 = .bool true := hf 30 _ _ rfl rfl (up_dep hr (by kernel_rfl))
      refine GJ.op hj hdo hr rfl _ hdi (fun K hK => ?_)
      clear hj hf hdo hdi
      rw [e1] at hK ⊢
      clear e1
      go_simp
      exact hK _ _ (fun k v _ _ h => h) (fun t ht => rfl) hcm
    · have gg : f 34 = .bool true := hf 31 _ _ rfl rfl (up_dep hr (by kernel_rfl))
      refine GJ.no hj hdo hr rfl _ hdi rfl (j := 31) rfl rfl (c := true) gg rfl (fun k v _ _ h => h) (fun t ht => rfl) ?_
      exact hcm
    · have gg : f 34 = .bool true := hf 31 _ _ rfl rfl (up_dep hr (by kernel_rfl))
      refine GJ.no hj hdo hr rfl _ hdi rfl (j := 31) rfl rfl (c := true) gg rfl (fun k v _ _ h => h) (fun t ht => rfl) ?_
      exact hcm
    · have gg : f 34 = .bool true := hf 31 _ _ rfl rfl (up_dep hr (by kernel_rfl))
      refine GJ.no hj hdo hr rfl _ hdi rfl (j := 31) rfl rfl (c := true) gg rfl (fun k v _ _ h => h) (fun t ht => rfl) ?_
      exact hcm
    · have gg : f 34 = .bool true := hf 31 _ _ rfl rfl (up_dep hr (by kernel_rfl))
      refine GJ.no hj hdo hr rfl _ hdi rfl (j := 31) rfl rfl (c := true) gg rfl (fun k v _ _ h => h) (fun t ht => rfl) ?_
      exact hcm
    · have gg : f 34 = .bool true := hf 31 _ _ rfl rfl (up_dep hr (by kernel_rfl))
      refine GJ.no hj hdo hr rfl _ hdi rfl (j := 31) rfl rfl (c := true) gg rfl (fun k v _ _ h => h) (fun t ht => rfl) ?_
      exact hcm
    · have gg : f 34 = .bool true := hf 31 _ _ rfl rfl (up_dep hr (by kernel_rfl))
      refine GJ.no hj hdo hr rfl _ hdi rfl (j := 31) rfl rfl (c := true) gg rfl (fun k v _ _ h => h) (fun t ht => rfl) ?_
      exact hcm
    · have gg : f 34 = .bool true := hf 31 _ _ rfl rfl (up_dep hr (by kernel_rfl))
      refine GJ.no hj hdo hr rfl _ hdi rfl (j := 31) rfl rfl (c := true) gg rfl (fun k v _ _ h => h) (fun t ht => rfl) ?_
      exact hcm
    · have gg : f 34 = .bool true := hf 31 _ _ rfl rfl (up_dep hr (by kernel_rfl))
      refine GJ.no hj hdo hr rfl _ hdi rfl (j := 31) rfl rfl (c := true) gg rfl (fun k v _ _ h => h) (fun t ht => rfl) ?_
      exact hcm
    · have gg : f 34 = .bool true := hf 31 _ _ rfl rfl (up_dep hr (by kernel_rfl))
      refine GJ.no hj hdo hr rfl _ hdi rfl (j := 31) rfl rfl (c := true) gg rfl (fun k v _ _ h => h) (fun t ht => rfl) ?_
      exact hcm
    · have gg : f 34 = .bool true := hf 31 _ _ rfl rfl (up_dep hr (by kernel_rfl))
      refine GJ.no hj hdo hr rfl _ hdi rfl (j := 31) rfl rfl (c := true) gg rfl (fun k v _ _ h => h) (fun t ht => rfl) ?_
      exact hcm
    · have gg : f 34 = .bool true := hf 31 _ _ rfl rfl (up_dep hr (by kernel_rfl))
      refine GJ.no hj hdo hr rfl _ hdi rfl (j := 31) rfl rfl (c := true) gg rfl (fun k v _ _ h => h) (fun t ht => rfl) ?_
      exact hcm
    · have gg : f 34 = .bool true := hf 31 _ _ rfl rfl (up_dep hr (by kernel_rfl))
      refine GJ.no hj hdo hr rfl _ hdi rfl (j := 31) rfl rfl (c := true) gg rfl (fun k v _ _ h => h) (fun t ht => rfl) ?_
      exact hcm
    · have e1 : f 34 = .bool true := hf 31 _ _ rfl rfl (up_dep hr (by kernel_rfl))
      refine GJ.op hj hdo hr rfl _ hdi (fun K hK => ?_)
      clear hj hf hdo hdi
      rw [e1] at hK ⊢
      clear e1
      go_simp
      exact hK _ _ (fun k v _ _ h => h) (fun t ht => rfl) hcm
  · intro listed a w10 hr hj
    have hu : ∀ k, k < 45 → up listed k := fun k hk => all_up (by kernel_rfl) hj.lsize hr k hk
    obtain ⟨f, hae, hcm, hf⟩ := hj.opened [3, 4, 5, 6, 7, 8, 9, 10, 11, 12, 13, 14, 15, 16, 17, 18, 19, 20, 21, 22, 23, 24, 25, 26, 27, 28, 29, 30, 31, 32, 33, 34, 35, 36, 37, 38, 39, 40, 41, 42, 43, 44, 45, 46, 47] (by kernel_rfl)
    simp only [List.foldl_cons, List.foldl_nil, List.setIfInBounds_toArray, List.set_cons_zero, List.set_cons_succ] at hae
    subst hae
    replace hcm : Below w.heap.size w w10 := hcm
    have E44 : f 47 = .bool true := hf 44 _ _ rfl rfl (hu 44 (by omega))
    have HCM := Lib.hid hcm
    clear hcm hf hj hr hu
    rw [E44]
    clear E44
    exact hQ.out _ (f 3) (f 4) (f 5) (f 6) (f 7) (f 8) (f 9) (f 10) (f 11) (f 12) (f 13) (f 14) (f 15) (f 16) (f 17) (f 18) (f 19) (f 20) (f 21) (f 22) (f 23) (f 24) (f 25) (f 26) (f 27) (f 28) (f 29) (f 30) (f 31) (f 32) (f 33) (f 34) (f 35) (f 36) (f 37) (f 38) (f 39) (f 40) (f 41) (f 42) (f 43) (f 44) (f 45) (f 46) HCM.out
set_option maxRecDepth 100000 in
set_option maxHeartbeats 8000000 in
theorem rname_oth (ops : Array Oper) (hops : (Tryz.f84.body.bind (regOf 1)) = some ops) {w : World} {p : Nat} {Q : Exit → Act → World → Prop} {x1 x2 x3 x4 x5 x6 x7 x8 x9 x10 x11 x12 x13 x14 x15 x16 x17 x18 x19 x20 x21 x22 x23 x24 x25 x26 x27 x28 x29 x30 x31 x32 x33 x34 x35 x36 x37 x38 x39 x40 x41 x42 x43 x44 x45 x46 x47 x48 x49 x50 x51 x52 x53 x54 x55 x56 x57 x58 x59 x60 x61 x62 x63 x64 x65 x66 x67 x68 : Value} {k n cap : Nat} {b o : Nat} {kd : Nat} (c3 : w.cell? ⟨p, 3, none⟩ = some (.int .i64 0)) (c1 : w.cell? ⟨p, 1, none⟩ = some (.int .i64 (k : Int))) (c0 : w.cell? ⟨p, 0, none⟩ = some (.slice (some ⟨b, o, none⟩) n cap)) (hk : k < n) (k0 : w.cell? ⟨b, o + k * 4, none⟩ = some (.int .u8 (kd : Int))) (hkd : ¬ kd = 1)
    (hQ : ∀ (W : World) (y3 y4 y5 y6 y7 y8 y9 y10 y11 y12 y13 y14 y15 y16 y17 y18 y19 y20 y21 y22 y23 y24 y25 y26 y27 y28 y29 y30 y31 y32 y33 y34 y35 y36 y37 y38 y39 y40 y41 y42 y43 y44 y45 y46 : Value), Below w.heap.size w W → Q .normal ⟨[.pointer (some ⟨p, 0, none⟩), x1, x2, y3, y4, y5, y6, y7, y8, y9, y10, y11, y12, y13, y14, y15, y16, y17, y18, y19, y20, y21, y22, y23, y24, y25, y26, y27, y28, y29, y30, y31, y32, y33, y34, y35, y36, y37, y38, y39, y40, y41, y42, y43, y44, y45, y46, .bool true, x48, x49, x50, x51, x52, x53, x54, x55, x56, x57, x58, x59, x60, x61, x62, x63, x64, x65, x66, x67, x68].toArray, []⟩ W) :
    (Code.region 1 ops true).wp Tryz.prog Q ⟨[.pointer (some ⟨p, 0, none⟩), x1, x2, x3, x4, x5, x6, x7, x8, x9, x10, x11, x12, x13, x14, x15, x16, x17, x18, x19, x20, x21, x22, x23, x24, x25, x26, x27, x28, x29, x30, x31, x32, x33, x34, x35, x36, x37, x38, x39, x40, x41, x42, x43, x44, x45, x46, x47, x48, x49, x50, x51, x52, x53, x54, x55, x56, x57, x58, x59, x60, x61, x62, x63, x64, x65, x66, x67, x68].toArray, []⟩ w := by
  simp only [Tryz.f84, Option.bind_some, regOf] at hops
  replace hops := Option.some.inj hops
  subst hops
  replace hQ := Lib.hid hQ
  have Q7 : Hid (decide (n ≤ k) = false) := decide_eq_false (by omega)
  have Q8 : Hid (¬ (n : Int) ≤ (k : Int)) := by show ¬ _ ≤ _; omega
  have Q1 : Hid ((k : Int) < (n : Int)) := by show _ < _; omega
  have Q2 : Hid (decide ((n : Int) ≤ (k : Int)) = false) := decide_eq_false (by omega)
  have Q3 : Hid ((0 : Int) ≤ (k : Int)) := by show _ ≤ _; omega
  have Q4 : Hid (((kd : Int) != 1) = true) := by show _ = _; simp; omega
  clear hkd
  refine wp_region_gj (J := GJ _ (SKS (S := (fun _ => False)) (fun κ => match κ with | 0 => KS.eq (.pointer (some ⟨p, 0, none⟩)) | 1 => KS.eq (.pointer (some ⟨p, 0, none⟩)) | 2 => KS.eq (.pointer (some ⟨p, 3, none⟩)) | 3 => KS.eq (.int .i64 0) | 4 => KS.eq (.bool false) | 5 => KS.eq (.bool false) | 6 => KS.eq (.pointer (some ⟨p, 0, none⟩)) | 7 => KS.eq (.pointer (some ⟨p, 0, none⟩)) | 8 => KS.eq (.pointer (some ⟨p, 1, none⟩)) | 9 => KS.eq (.int .i64 (k : Int)) | 10 => KS.eq (.pointer (some ⟨p, 0, none⟩)) | 11 => KS.eq (.pointer (some ⟨p, 0, none⟩)) | 12 => KS.eq (.pointer (some ⟨p, 0, none⟩)) | 13 => KS.eq (.slice (some ⟨b, o, none⟩) n cap) | 14 => KS.eq (.int .i64 (n : Int)) | 15 => KS.eq (.bool false) | 16 => KS.eq (.bool false) | 17 => KS.eq (.bool false) | 18 => KS.eq (.pointer (some ⟨p, 0, none⟩)) | 19 => KS.eq (.pointer (some ⟨p, 0, none⟩)) | 20 => KS.eq (.pointer (some ⟨p, 0, none⟩)) | 21 => KS.eq (.slice (some ⟨b, o, none⟩) n cap) | 22 => KS.eq (.pointer (some ⟨p, 0, none⟩)) | 23 => KS.eq (.pointer (some ⟨p, 0, none⟩)) | 24 => KS.eq (.pointer (some ⟨p, 1, none⟩)) | 25 => KS.eq (.int .i64 (k : Int)) | 26 => KS.eq (.pointer (some ⟨b, o + k * 4, none⟩)) | 27 => KS.eq (.pointer (some ⟨b, o + k * 4, none⟩)) | 28 => KS.eq (.int .u8 (kd : Int)) | 29 => KS.eq (.bool true) | 30 => KS.eq (.bool true) | 31 => KS.eq (.bool true) | 32 => KS.eq undef | 33 => KS.eq undef | 34 => KS.eq undef | 35 => KS.eq undef | 36 => KS.eq undef | 37 => KS.eq undef | 38 => KS.eq undef | 39 => KS.eq undef | 40 => KS.eq undef | 41 => KS.eq undef | 42 => KS.eq undef | 43 => KS.eq undef | 44 => KS.eq (.bool true) | _ => KS.any)) (fun _ _ u => Below w.heap.size w u) _) (by kernel_rfl) ?_ ?_ (GJ.start (below_dr (Below.refl _ _)))
  · intro listed a w9 i hr hj
    obtain ⟨hi12, hun, _, _, _⟩ := ready_mem hr
    have h12 : i ∈ List.range 45 := List.mem_range.2 hi12
    simp only [List.range, List.range.loop, List.mem_cons, List.not_mem_nil, or_false] at h12
    obtain ⟨f, hae, hcm, hf, hdo, hdi⟩ := hj.open3 [3, 4, 5, 6, 7, 8, 9, 10, 11, 12, 13, 14, 15, 16, 17, 18, 19, 20, 21, 22, 23, 24, 25, 26, 27, 28, 29, 30, 31, 32, 33, 34, 35, 36, 37, 38, 39, 40, 41, 42, 43, 44, 45, 46, 47] (by kernel_rfl) (by kernel_rfl)
    simp only [List.foldl_cons, List.foldl_nil, List.setIfInBounds_toArray, List.set_cons_zero, List.set_cons_succ] at hae
    subst hae
    replace hcm : Below w.heap.size w w9 := hcm
    rcases h12 with rfl | rfl | rfl | rfl | rfl | rfl | rfl | rfl | rfl | rfl | rfl | rfl | rfl | rfl | rfl | rfl | rfl | rfl | rfl | rfl | rfl | rfl | rfl | rfl | rfl | rfl | rfl | rfl | rfl | rfl | rfl | rfl | rfl | rfl | rfl | rfl | rfl | rfl | rfl | rfl | rfl | rfl | rfl | rfl | rfl
    · refine GJ.op hj hdo hr rfl _ hdi (fun K hK => ?_)
      clear hj hf hdo hdi
      go_simp
      exact hK _ _ (fun k v _ _ h => h) (fun t ht => rfl) hcm
    · have e1 : f 3 = .pointer (some ⟨p, 0, none⟩) := hf 0 _ _ rfl rfl (up_dep hr (by kernel_rfl))
      obtain ⟨kc, klt⟩ := kcl hcm c3
      refine GJ.op hj hdo hr rfl _ hdi (fun K hK => ?_)
      clear hj hf hdo hdi
      rw [e1] at hK ⊢
      clear e1
      go_simp
      exact hK _ _ (fun k v _ _ h => h) (fun t ht => rfl) hcm
    · have e1 : f 4 = .pointer (some ⟨p, 0, none⟩) := hf 1 _ _ rfl rfl (up_dep hr (by kernel_rfl))
      refine GJ.op hj hdo hr rfl _ hdi (fun K hK => ?_)
      clear hj hf hdo hdi
      rw [e1] at hK ⊢
      clear e1
      go_simp
      exact hK _ _ (fun k v _ _ h => h) (fun t ht => rfl) hcm
    · have e1 : f 5 = .pointer (some ⟨p, 3, none⟩) := hf 2 _ _ rfl rfl (up_dep hr (by kernel_rfl))
      obtain ⟨kc, klt⟩ := kcl hcm c3
      refine GJ.op hj hdo hr rfl _ hdi (fun K hK => ?_)
      clear hj hf hdo hdi
      rw [e1] at hK ⊢
      clear e1
      go_simp
      exact hK _ _ (fun k v _ _ h => h) (fun t ht => rfl) hcm
    · have e1 : f 6 = .int .i64 0 := hf 3 _ _ rfl rfl (up_dep hr (by kernel_rfl))
      refine GJ.op hj hdo hr rfl _ hdi (fun K hK => ?_)
      clear hj hf hdo hdi
      rw [e1] at hK ⊢
      clear e1
      go_simp
      exact hK _ _ (fun k v _ _ h => h) (fun t ht => rfl) hcm
    · have e1 : f 7 = .bool false := hf 4 _ _ rfl rfl (up_dep hr (by kernel_rfl))
      refine GJ.op hj hdo hr rfl _ hdi (fun K hK => ?_)
      clear hj hf hdo hdi
      rw [e1] at hK ⊢
      clear e1
      go_simp
      exact hK _ _ (fun k v _ _ h => h) (fun t ht => rfl) hcm
    · have gg : f 8 = .bool false := hf 5 _ _ rfl rfl (up_dep hr (by kernel_rfl))
      refine GJ.yes hj hdo hr rfl _ hdi rfl (j := 5) rfl rfl (c := false) gg rfl (fun K hK => ?_)
      clear gg
      clear hj hf hdo hdi
      go_simp
      exact hK _ _ (fun k v _ _ h => h) (fun t ht => rfl) hcm
    · have gg : f 8 = .bool false := hf 5 _ _ rfl rfl (up_dep hr (by kernel_rfl))
      have e1 : f 9 = .pointer (some ⟨p, 0, none⟩) := hf 6 _ _ rfl rfl (up_dep hr (by kernel_rfl))
      obtain ⟨kc, klt⟩ := kcl hcm c3
      refine GJ.yes hj hdo hr rfl _ hdi rfl (j := 5) rfl rfl (c := false) gg rfl (fun K hK => ?_)
      clear gg
      clear hj hf hdo hdi
      rw [e1] at hK ⊢
      clear e1
      go_simp
      exact hK _ _ (fun k v _ _ h => h) (fun t ht => rfl) hcm
    · have gg : f 8 = .bool false := hf 5 _ _ rfl rfl (up_dep hr (by kernel_rfl))
      have e1 : f 10 = .pointer (some ⟨p, 0, none⟩) := hf 7 _ _ rfl rfl (up_dep hr (by kernel_rfl))
      refine GJ.yes hj hdo hr rfl _ hdi rfl (j := 5) rfl rfl (c := false) gg rfl (fun K hK => ?_)
      clear gg
      clear hj hf hdo hdi
      rw [e1] at hK ⊢
      clear e1
      go_simp
      exact hK _ _ (fun k v _ _ h => h) (fun t ht => rfl) hcm
    · have gg : f 8 = .bool false := hf 5 _ _ rfl rfl (up_dep hr (by kernel_rfl))
      have e1 : f 11 = .pointer (some ⟨p, 1, none⟩) := hf 8 _ _ rfl rfl (up_dep hr (by kernel_rfl))
      obtain ⟨kc, klt⟩ := kcl hcm c1
      refine GJ.yes hj hdo hr rfl _ hdi rfl (j := 5) rfl rfl (c := false) gg rfl (fun K hK => ?_)
      clear gg
      clear hj hf hdo hdi
      rw [e1] at hK ⊢
      clear e1
      go_simp
      exact hK _ _ (fun k v _ _ h => h) (fun t ht => rfl) hcm
    · have gg : f 8 = .bool false := hf 5 _ _ rfl rfl (up_dep hr (by kernel_rfl))
      refine GJ.yes hj hdo hr rfl _ hdi rfl (j := 5) rfl rfl (c := false) gg rfl (fun K hK => ?_)
      clear gg
      clear hj hf hdo hdi
      go_simp
      exact hK _ _ (fun k v _ _ h => h) (fun t ht => rfl) hcm
    · have gg : f 8 = .bool false := hf 5 _ _ rfl rfl (up_dep hr (by kernel_rfl))
      have e1 : f 13 = .pointer (some ⟨p, 0, none⟩) := hf 10 _ _ rfl rfl (up_dep hr (by kernel_rfl))
      obtain ⟨kc, klt⟩ := kcl hcm c3
      refine GJ.yes hj hdo hr rfl _ hdi rfl (j := 5) rfl rfl (c := false) gg rfl (fun K hK => ?_)
      clear gg
      clear hj hf hdo hdi
      rw [e1] at hK ⊢
      clear e1
      go_simp
      exact hK _ _ (fun k v _ _ h => h) (fun t ht => rfl) hcm
    · have gg : f 8 = .bool false := hf 5 _ _ rfl rfl (up_dep hr (by kernel_rfl))
      have e1 : f 14 = .pointer (some ⟨p, 0, none⟩) := hf 11 _ _ rfl rfl (up_dep hr (by kernel_rfl))
      refine GJ.yes hj hdo hr rfl _ hdi rfl (j := 5) rfl rfl (c := false) gg rfl (fun K hK => ?_)
      clear gg
      clear hj hf hdo hdi
      rw [e1] at hK ⊢
      clear e1
      go_simp
      exact hK _ _ (fun k v _ _ h => h) (fun t ht => rfl) hcm
    · have gg : f 8 = .bool false := hf 5 _ _ rfl rfl (up_dep hr (by kernel_rfl))
      have e1 : f 15 = .pointer (some ⟨p, 0, none⟩) := hf 12 _ _ rfl rfl (up_dep hr (by kernel_rfl))
      obtain ⟨kc, klt⟩ := kcl hcm c0
      refine GJ.yes hj hdo hr rfl _ hdi rfl (j := 5) rfl rfl (c := false) gg rfl (fun K hK => ?_)
      clear gg
      clear hj hf hdo hdi
      rw [e1] at hK ⊢
      clear e1
      go_simp
      exact hK _ _ (fun k v _ _ h => h) (fun t ht => rfl) hcm
    · have gg : f 8 = .bool false := hf 5 _ _ rfl rfl (up_dep hr (by kernel_rfl))
      have e1 : f 16 = .slice (some ⟨b, o, none⟩) n cap := hf 13 _ _ rfl rfl (up_dep hr (by kernel_rfl))
      refine GJ.yes hj hdo hr rfl _ hdi rfl (j := 5) rfl rfl (c := false) gg rfl (fun K hK => ?_)
      clear gg
      clear hj hf hdo hdi
      rw [e1] at hK ⊢
      clear e1
      go_simp
      exact hK _ _ (fun k v _ _ h => h) (fun t ht => rfl) hcm
    · have gg : f 8 = .bool false := hf 5 _ _ rfl rfl (up_dep hr (by kernel_rfl))
      have e1 : f 12 = .int .i64 (k : Int) := hf 9 _ _ rfl rfl (up_dep hr (by kernel_rfl))
      have e2 : f 17 = .int .i64 (n : Int) := hf 14 _ _ rfl rfl (up_dep hr (by kernel_rfl))
      have q1 := Q1.out
      have q2 := Q2.out
      have q3 := Q3.out
      have q7 := Q7.out
      have q8 := Q8.out
      refine GJ.yes hj hdo hr rfl _ hdi rfl (j := 5) rfl rfl (c := false) gg rfl (fun K hK => ?_)
      clear gg
      clear hj hf hdo hdi
      rw [e1, e2] at hK ⊢
      clear e1 e2
      go_simp
      exact hK _ _ (fun k v _ _ h => h) (fun t ht => rfl) hcm
    · have e1 : f 8 = .bool false := hf 5 _ _ rfl rfl (up_dep hr (by kernel_rfl))
      have e2 : f 18 = .bool false := hf 15 _ _ rfl rfl (up_dep hr (by kernel_rfl))
      refine GJ.op hj hdo hr rfl _ hdi (fun K hK => ?_)
      clear hj hf hdo hdi
      rw [e1, e2] at hK ⊢
      clear e1 e2
      go_simp
      exact hK _ _ (fun k v _ _ h => h) (fun t ht => rfl) hcm
    · have e1 : f 19 = .bool false := hf 16 _ _ rfl rfl (up_dep hr (by kernel_rfl))
      refine GJ.op hj hdo hr rfl _ hdi (fun K hK => ?_)
      clear hj hf hdo hdi
      rw [e1] at hK ⊢
      clear e1
      go_simp
      exact hK _ _ (fun k v _ _ h => h) (fun t ht => rfl) hcm
    · have gg : f 20 = .bool false := hf 17 _ _ rfl rfl (up_dep hr (by kernel_rfl))
      refine GJ.yes hj hdo hr rfl _ hdi rfl (j := 17) rfl rfl (c := false) gg rfl (fun K hK => ?_)
      clear gg
      clear hj hf hdo hdi
      go_simp
      exact hK _ _ (fun k v _ _ h => h) (fun t ht => rfl) hcm
    · have gg : f 20 = .bool false := hf 17 _ _ rfl rfl (up_dep hr (by kernel_rfl))
      have e1 : f 21 = .pointer (some ⟨p, 0, none⟩) := hf 18 _ _ rfl rfl (up_dep hr (by kernel_rfl))
      obtain ⟨kc, klt⟩ := kcl hcm c3
      refine GJ.yes hj hdo hr rfl _ hdi rfl (j := 17) rfl rfl (c := false) gg rfl (fun K hK => ?_)
      clear gg
      clear hj hf hdo hdi
      rw [e1] at hK ⊢
      clear e1
      go_simp
      exact hK _ _ (fun k v _ _ h => h) (fun t ht => rfl) hcm
    · have gg : f 20 = .bool false := hf 17 _ _ rfl rfl (up_dep hr (by kernel_rfl))
      have e1 : f 22 = .pointer (some ⟨p, 0, none⟩) := hf 19 _ _ rfl rfl (up_dep hr (by kernel_rfl))
      refine GJ.yes hj hdo hr rfl _ hdi rfl (j := 17) rfl rfl (c := false) gg rfl (fun K hK => ?_)
      clear gg
      clear hj hf hdo hdi
      rw [e1] at hK ⊢
      clear e1
      go_simp
      exact hK _ _ (fun k v _ _ h => h) (fun t ht => rfl) hcm
    · have gg : f 20 = .bool false := hf 17 _ _ rfl rfl (up_dep hr (by kernel_rfl))
      have e1 : f 23 = .pointer (some ⟨p, 0, none⟩) := hf 20 _ _ rfl rfl (up_dep hr (by kernel_rfl))
      obtain ⟨kc, klt⟩ := kcl hcm c0
      refine GJ.yes hj hdo hr rfl _ hdi rfl (j := 17) rfl rfl (c := false) gg rfl (fun K hK => ?_)
      clear gg
      clear hj hf hdo hdi
      rw [e1] at hK ⊢
      clear e1
      go_simp
      exact hK _ _ (fun k v _ _ h => h) (fun t ht => rfl) hcm
    · have gg : f 20 = .bool false := hf 17 _ _ rfl rfl (up_dep hr (by kernel_rfl))
      refine GJ.yes hj hdo hr rfl _ hdi rfl (j := 17) rfl rfl (c := false) gg rfl (fun K hK => ?_)
      clear gg
      clear hj hf hdo hdi
      go_simp
      exact hK _ _ (fun k v _ _ h => h) (fun t ht => rfl) hcm
    · have gg : f 20 = .bool false := hf 17 _ _ rfl rfl (up_dep hr (by kernel_rfl))
      have e1 : f 25 = .pointer (some ⟨p, 0, none⟩) := hf 22 _ _ rfl rfl (up_dep hr (by kernel_rfl))
      obtain ⟨kc, klt⟩ := kcl hcm c3
      refine GJ.yes hj hdo hr rfl _ hdi rfl (j := 17) rfl rfl (c := false) gg rfl (fun K hK => ?_)
      clear gg
      clear hj hf hdo hdi
      rw [e1] at hK ⊢
      clear e1
      go_simp
      exact hK _ _ (fun k v _ _ h => h) (fun t ht => rfl) hcm
    · have gg : f 20 = .bool false := hf 17 _ _ rfl rfl (up_dep hr (by kernel_rfl))
      have e1 : f 26 = .pointer (some ⟨p, 0, none⟩) := hf 23 _ _ rfl rfl (up_dep hr (by kernel_rfl))
      refine GJ.yes hj hdo hr rfl _ hdi rfl (j := 17) rfl rfl (c := false) gg rfl (fun K hK => ?_)
      clear gg
      clear hj hf hdo hdi
      rw [e1] at hK ⊢
      clear e1
      go_simp
      exact hK _ _ (fun k v _ _ h => h) (fun t ht => rfl) hcm
    · have gg : f 20 = .bool false := hf 17 _ _ rfl rfl (up_dep hr (by kernel_rfl))
      have e1 : f 27 = .pointer (some ⟨p, 1, none⟩) := hf 24 _ _ rfl rfl (up_dep hr (by kernel_rfl))
      obtain ⟨kc, klt⟩ := kcl hcm c1
      refine GJ.yes hj hdo hr rfl _ hdi rfl (j := 17) rfl rfl (c := false) gg rfl (fun K hK => ?_)
      clear gg
      clear hj hf hdo hdi
      rw [e1] at hK ⊢
      clear e1
      go_simp
      exact hK _ _ (fun k v _ _ h => h) (fun t ht => rfl) hcm
    · have gg : f 20 = .bool false := hf 17 _ _ rfl rfl (up_dep hr (by kernel_rfl))
      have e1 : f 24 = .slice (some ⟨b, o, none⟩) n cap := hf 21 _ _ rfl rfl (up_dep hr (by kernel_rfl))
      have e2 : f 28 = .int .i64 (k : Int) := hf 25 _ _ rfl rfl (up_dep hr (by kernel_rfl))
      have q1 := Q1.out
      have q2 := Q2.out
      have q3 := Q3.out
      have q7 := Q7.out
      have q8 := Q8.out
      refine GJ.yes hj hdo hr rfl _ hdi rfl (j := 17) rfl rfl (c := false) gg rfl (fun K hK => ?_)
      clear gg
      clear hj hf hdo hdi
      rw [e1, e2] at hK ⊢
      clear e1 e2
      go_simp
      exact hK _ _ (fun k v _ _ h => h) (fun t ht => rfl) hcm
    · have gg : f 20 = .bool false := hf 17 _ _ rfl rfl (up_dep hr (by kernel_rfl))
      have e1 : f 29 = .pointer (some ⟨b, o + k * 4, none⟩) := hf 26 _ _ rfl rfl (up_dep hr (by kernel_rfl))
      obtain ⟨kc, klt⟩ := kcl hcm k0
      refine GJ.yes hj hdo hr rfl _ hdi rfl (j := 17) rfl rfl (c := false) gg rfl (fun K hK => ?_)
      clear gg
      clear hj hf hdo hdi
      rw [e1] at hK ⊢
      clear e1
      go_simp
      exact hK _ _ (fun k v _ _ h => h) (fun t ht => rfl) hcm
    · have gg : f 20 = .bool false := hf 17 _ _ rfl rfl (up_dep hr (by kernel_rfl))
      have e1 : f 30 = .pointer (some ⟨b, o + k * 4, none⟩) := hf 27 _ _ rfl rfl (up_dep hr (by kernel_rfl))
      obtain ⟨kc, klt⟩ := kcl hcm k0
      refine GJ.yes hj hdo hr rfl _ hdi rfl (j := 17) rfl rfl (c := false) gg rfl (fun K hK => ?_)
      clear gg
      clear hj hf hdo hdi
      rw [e1] at hK ⊢
      clear e1
      go_simp
      exact hK _ _ (fun k v _ _ h => h) (fun t ht => rfl) hcm
    · have gg : f 20 = .bool false := hf 17 _ _ rfl rfl (up_dep hr (by kernel_rfl))
      have e1 : f 31 = .int .u8 (kd : Int) := hf 28 _ _ rfl rfl (up_dep hr (by kernel_rfl))
      have q4 := Q4.out
      refine GJ.yes hj hdo hr rfl _ hdi rfl (j := 17) rfl rfl (c := false) gg rfl (fun K hK => ?_)
      clear gg
      clear hj hf hdo hdi
      rw [e1] at hK ⊢
      clear e1
      go_simp
      exact hK _ _ (fun k v _ _ h => h) (fun t ht => rfl) hcm
    · have e1 : f 20 = .bool false := hf 17 _ _ rfl rfl (up_dep hr (by kernel_rfl))
      have e2 : f 32 = .bool true := hf 29 _ _ rfl rfl (up_dep hr (by kernel_rfl))
      refine GJ.op hj hdo hr rfl _ hdi (fun K hK => ?_)
      clear hj hf hdo hdi
      rw [e1, e2] at hK ⊢
      clear e1 e2
      go_simp
      exact hK _ _ (fun k v _ _ h => h) (fun t ht => rfl) hcm
    · have e1 : f 33 = .bool true := hf 30 _ _ rfl rfl (up_dep hr (by kernel_rfl))
      refine GJ.op hj hdo hr rfl _ hdi (fun K hK => ?_)
      clear hj hf hdo hdi
      rw [e1] at hK ⊢
      clear e1
      go_simp
      exact hK _ _ (fun k v _ _ h => h) (fun t ht => rfl) hcm
    · have gg : f 34 = .bool true := hf 31 _ _ rfl rfl (up_dep hr (by kernel_rfl))
      refine GJ.no hj hdo hr rfl _ hdi rfl (j := 31) rfl rfl (c := true) gg rfl (fun k v _ _ h => h) (fun t ht => rfl) ?_
      exact hcm
    · have gg : f 34 = .bool true := hf 31 _ _ rfl rfl (up_dep hr (by kernel_rfl))
      refine GJ.no hj hdo hr rfl _ hdi rfl (j := 31) rfl rfl (c := true) gg rfl (fun k v _ _ h => h) (fun t ht => rfl) ?_
      exact hcm
    · have gg : f 34 = .bool true := hf 31 _ _ rfl rfl (up_dep hr (by kernel_rfl))
      refine GJ.no hj hdo hr rfl _ hdi rfl (j := 31) rfl rfl (c := true) gg rfl (fun k v _ _ h => h) (fun t ht => rfl) ?_
      exact hcm
    · have gg : f 34 = .bool true := hf 31 _ _ rfl rfl (up_dep hr (by kernel_rfl))
      refine GJ.no hj hdo hr rfl _ hdi rfl (j := 31) rfl rfl (c := true) gg rfl (fun k v _ _ h => h) (fun t ht => rfl) ?_
      exact hcm
    · have gg : f 34 = .bool true := hf 31 _ _ rfl rfl (up_dep hr (by kernel_rfl))
      refine GJ.no hj hdo hr rfl _ hdi rfl (j := 31) rfl rfl (c := true) gg rfl (fun k v _ _ h => h) (fun t ht => rfl) ?_
      exact hcm
    · have gg : f 34 = .bool true := hf 31 _ _ rfl rfl (up_dep hr (by kernel_rfl))
      refine GJ.no hj hdo hr rfl _ hdi rfl (j := 31) rfl rfl (c := true) gg rfl (fun k v _ _ h => h) (fun t ht => rfl) ?_
      exact hcm
    · have gg : f 34 = .bool true := hf 31 _ _ rfl rfl (up_dep hr (by kernel_rfl))
      refine GJ.no hj hdo hr rfl _ hdi rfl (j := 31) rfl rfl (c := true) gg rfl (fun k v _ _ h => h) (fun t ht => rfl) ?_
      exact hcm
    · have gg : f 34 = .bool true := hf 31 _ _ rfl rfl (up_dep hr (by kernel_rfl))
      refine GJ.no hj hdo hr rfl _ hdi rfl (j := 31) rfl rfl (c := true) gg rfl (fun k v _ _ h => h) (fun t ht => rfl) ?_
      exact hcm
    · have gg : f 34 = .bool true := hf 31 _ _ rfl rfl (up_dep hr (by kernel_rfl))
      refine GJ.no hj hdo hr rfl _ hdi rfl (j := 31) rfl rfl (c := true) gg rfl (fun k v _ _ h => h) (fun t ht => rfl) ?_
      exact hcm
    · have gg : f 34 = .bool true := hf 31 _ _ rfl rfl (up_dep hr (by kernel_rfl))
      refine GJ.no hj hdo hr rfl _ hdi rfl (j := 31) rfl rfl (c := true) gg rfl (fun k v _ _ h => h) (fun t ht => rfl) ?_
      exact hcm
    · have gg : f 34 = .bool true := hf 31 _ _ rfl rfl (up_dep hr (by kernel_rfl))
      refine GJ.no hj hdo hr rfl _ hdi rfl (j := 31) rfl rfl (c := true) gg rfl (fun k v _ _ h => h) (fun t ht => rfl) ?_
      exact hcm
    · have gg : f 34 = .bool true := hf 31 _ _ rfl rfl (up_dep hr (by kernel_rfl))
      refine GJ.no hj hdo hr rfl _ hdi rfl (j := 31) rfl rfl (c := true) gg rfl (fun k v _ _ h => h) (fun t ht => rfl) ?_
      exact hcm
    · have e1 : f 34 = .bool true := hf 31 _ _ rfl rfl (up_dep hr (by kernel_rfl))
      refine GJ.op hj hdo hr rfl _ hdi (fun K hK => ?_)
      clear hj hf hdo hdi
      rw [e1] at hK ⊢
      clear e1
      go_simp
      exact hK _ _ (fun k v _ _ h => h) (fun t ht => rfl) hcm
  · intro listed a w10 hr hj
    have hu : ∀ k, k < 45 → up listed k := fun k hk => all_up (by kernel_rfl) hj.lsize hr k hk
    obtain ⟨f, hae, hcm, hf⟩ := hj.opened [3, 4, 5, 6, 7, 8, 9, 10, 11, 12, 13, 14, 15, 16, 17, 18, 19, 20, 21, 22, 23, 24, 25, 26, 27, 28, 29, 30, 31, 32, 33, 34, 35, 36, 37, 38, 39, 40, 41, 42, 43, 44, 45, 46, 47] (by kernel_rfl)
    simp only [List.foldl_cons, List.foldl_nil, List.setIfInBounds_toArray, List.set_cons_zero, List.set_cons_succ] at hae
    subst hae
    replace hcm : Below w.heap.size w w10 := hcm
    have E44 : f 47 = .bool true := hf 44 _ _ rfl rfl (hu 44 (by omega))
    have HCM := Lib.hid hcm
    clear hcm hf hj hr hu
    rw [E44]
    clear E44
    exact hQ.out _ (f 3) (f 4) (f 5) (f 6) (f 7) (f 8) (f 9) (f 10) (f 11) (f 12) (f 13) (f 14) (f 15) (f 16) (f 17) (f 18) (f 19) (f 20) (f 21) (f 22) (f 23) (f 24) (f 25) (f 26) (f 27) (f 28) (f 29) (f 30) (f 31) (f 32) (f 33) (f 34) (f 35) (f 36) (f 37) (f 38) (f 39) (f 40) (f 41) (f 42) (f 43) (f 44) (f 45) (f 46) HCM.out
set_option maxRecDepth 100000 in
set_option maxHeartbeats 8000000 in
theorem rname_tok (ops : Array Oper) (hops : (Tryz.f84.body.bind (regOf 1)) = some ops) {w : World} {p : Nat} {Q : Exit → Act → World → Prop} {x1 x2 x3 x4 x5 x6 x7 x8 x9 x10 x11 x12 x13 x14 x15 x16 x17 x18 x19 x20 x21 x22 x23 x24 x25 x26 x27 x28 x29 x30 x31 x32 x33 x34 x35 x36 x37 x38 x39 x40 x41 x42 x43 x44 x45 x46 x47 x48 x49 x50 x51 x52 x53 x54 x55 x56 x57 x58 x59 x60 x61 x62 x63 x64 x65 x66 x67 x68 : Value} {k n cap : Nat} {b o : Nat} {kd : Nat} {x : List UInt8} (c3 : w.cell? ⟨p, 3, none⟩ = some (.int .i64 0)) (c1 : w.cell? ⟨p, 1, none⟩ = some (.int .i64 (k : Int))) (c0 : w.cell? ⟨p, 0, none⟩ = some (.slice (some ⟨b, o, none⟩) n cap)) (hk : k < n) (k0 : w.cell? ⟨b, o + k * 4, none⟩ = some (.int .u8 (kd : Int))) (hkd : kd = 1) (k1 : w.cell? ⟨b, o + k * 4 + 1, none⟩ = some (.string (bs x)))
    (hQ : ∀ (W : World) (y3 y4 y5 y6 y7 y8 y9 y10 y11 y12 y13 y14 y15 y16 y17 y18 y19 y20 y21 y22 y23 y24 y25 y26 y27 y28 y29 y30 y31 y32 y33 y34 y35 y36 y37 y38 y39 y40 y41 y42 y43 y44 y45 y46 : Value), Below w.heap.size w W → Q .normal ⟨[.pointer (some ⟨p, 0, none⟩), x1, x2, y3, y4, y5, y6, y7, y8, y9, y10, y11, y12, y13, y14, y15, y16, y17, y18, y19, y20, y21, y22, y23, y24, y25, y26, y27, y28, y29, y30, y31, y32, y33, y34, y35, y36, y37, y38, y39, y40, y41, y42, y43, y44, y45, y46, .bool (isWord x), x48, x49, x50, x51, x52, x53, x54, x55, x56, x57, x58, x59, x60, x61, x62, x63, x64, x65, x66, x67, x68].toArray, []⟩ W) :
    (Code.region 1 ops true).wp Tryz.prog Q ⟨[.pointer (some ⟨p, 0, none⟩), x1, x2, x3, x4, x5, x6, x7, x8, x9, x10, x11, x12, x13, x14, x15, x16, x17, x18, x19, x20, x21, x22, x23, x24, x25, x26, x27, x28, x29, x30, x31, x32, x33, x34, x35, x36, x37, x38, x39, x40, x41, x42, x43, x44, x45, x46, x47, x48, x49, x50, x51, x52, x53, x54, x55, x56, x57, x58, x59, x60, x61, x62, x63, x64, x65, x66, x67, x68].toArray, []⟩ w := by
  simp only [Tryz.f84, Option.bind_some, regOf] at hops
  replace hops := Option.some.inj hops
  subst hops
  replace hQ := Lib.hid hQ
  have Q7 : Hid (decide (n ≤ k) = false) := decide_eq_false (by omega)
  have Q8 : Hid (¬ (n : Int) ≤ (k : Int)) := by show ¬ _ ≤ _; omega
  have Q1 : Hid ((k : Int) < (n : Int)) := by show _ < _; omega
  have Q2 : Hid (decide ((n : Int) ≤ (k : Int)) = false) := decide_eq_false (by omega)
  have Q3 : Hid ((0 : Int) ≤ (k : Int)) := by show _ ≤ _; omega
  have Q4 : Hid (((kd : Int) != 1) = false) := by show _ = _; simp; omega
  clear hkd
  refine wp_gj_tail (S := SKS (S := (fun _ => False)) (fun κ => match κ with | 0 => KS.eq (.pointer (some ⟨p, 0, none⟩)) | 1 => KS.eq (.pointer (some ⟨p, 0, none⟩)) | 2 => KS.eq (.pointer (some ⟨p, 3, none⟩)) | 3 => KS.eq (.int .i64 0) | 4 => KS.eq (.bool false) | 5 => KS.eq (.bool false) | 6 => KS.eq (.pointer (some ⟨p, 0, none⟩)) | 7 => KS.eq (.pointer (some ⟨p, 0, none⟩)) | 8 => KS.eq (.pointer (some ⟨p, 1, none⟩)) | 9 => KS.eq (.int .i64 (k : Int)) | 10 => KS.eq (.pointer (some ⟨p, 0, none⟩)) | 11 => KS.eq (.pointer (some ⟨p, 0, none⟩)) | 12 => KS.eq (.pointer (some ⟨p, 0, none⟩)) | 13 => KS.eq (.slice (some ⟨b, o, none⟩) n cap) | 14 => KS.eq (.int .i64 (n : Int)) | 15 => KS.eq (.bool false) | 16 => KS.eq (.bool false) | 17 => KS.eq (.bool false) | 18 => KS.eq (.pointer (some ⟨p, 0, none⟩)) | 19 => KS.eq (.pointer (some ⟨p, 0, none⟩)) | 20 => KS.eq (.pointer (some ⟨p, 0, none⟩)) | 21 => KS.eq (.slice (some ⟨b, o, none⟩) n cap) | 22 => KS.eq (.pointer (some ⟨p, 0, none⟩)) | 23 => KS.eq (.pointer (some ⟨p, 0, none⟩)) | 24 => KS.eq (.pointer (some ⟨p, 1, none⟩)) | 25 => KS.eq (.int .i64 (k : Int)) | 26 => KS.eq (.pointer (some ⟨b, o + k * 4, none⟩)) | 27 => KS.eq (.pointer (some ⟨b, o + k * 4, none⟩)) | 28 => KS.eq (.int .u8 (kd : Int)) | 29 => KS.eq (.bool false) | 30 => KS.eq (.bool false) | 31 => KS.eq (.bool false) | 32 => KS.eq (.pointer (some ⟨p, 0, none⟩)) | 33 => KS.eq (.pointer (some ⟨p, 0, none⟩)) | 34 => KS.eq (.pointer (some ⟨p, 0, none⟩)) | 35 => KS.eq (.slice (some ⟨b, o, none⟩) n cap) | 36 => KS.eq (.pointer (some ⟨p, 0, none⟩)) | 37 => KS.eq (.pointer (some ⟨p, 0, none⟩)) | 38 => KS.eq (.pointer (some ⟨p, 1, none⟩)) | 39 => KS.eq (.int .i64 (k : Int)) | 40 => KS.eq (.pointer (some ⟨b, o + k * 4, none⟩)) | 41 => KS.eq (.pointer (some ⟨b, o + k * 4 + 1, none⟩)) | 42 => KS.eq (.string (bs x)) | _ => KS.any)) (C := fun _ _ u => Below w.heap.size w u) 43 (by kernel_rfl) (by decide) (by kernel_rfl) (by kernel_rfl) ?_ ?_ (GJ.start (below_dr (Below.refl _ _)))
  · intro listed a w9 i hin hr hj
    obtain ⟨hi12, hun, _, _, _⟩ := ready_mem hr
    have h12 : i ∈ List.range 43 := List.mem_range.2 hin
    simp only [List.range, List.range.loop, List.mem_cons, List.not_mem_nil, or_false] at h12
    obtain ⟨f, hae, hcm, hf, hdo, hdi⟩ := hj.open3 [3, 4, 5, 6, 7, 8, 9, 10, 11, 12, 13, 14, 15, 16, 17, 18, 19, 20, 21, 22, 23, 24, 25, 26, 27, 28, 29, 30, 31, 32, 33, 34, 35, 36, 37, 38, 39, 40, 41, 42, 43, 44, 45, 46, 47] (by kernel_rfl) (by kernel_rfl)
    simp only [List.foldl_cons, List.foldl_nil, List.setIfInBounds_toArray, List.set_cons_zero, List.set_cons_succ] at hae
    subst hae
    replace hcm : Below w.heap.size w w9 := hcm
    rcases h12 with rfl | rfl | rfl | rfl | rfl | rfl | rfl | rfl | rfl | rfl | rfl | rfl | rfl | rfl | rfl | rfl | rfl | rfl | rfl | rfl | rfl | rfl | rfl | rfl | rfl | rfl | rfl | rfl | rfl | rfl | rfl | rfl | rfl | rfl | rfl | rfl | rfl | rfl | rfl | rfl | rfl | rfl | rfl
    · refine GJ.op hj hdo hr rfl _ hdi (fun K hK => ?_)
      clear hj hf hdo hdi
      go_simp
      exact hK _ _ (fun k v _ _ h => h) (fun t ht => rfl) hcm
    · have e1 : f 3 = .pointer (some ⟨p, 0, none⟩) := hf 0 _ _ rfl rfl (up_dep hr (by kernel_rfl))
      obtain ⟨kc, klt⟩ := kcl hcm c3
      refine GJ.op hj hdo hr rfl _ hdi (fun K hK => ?_)
      clear hj hf hdo hdi
      rw [e1] at hK ⊢
      clear e1
      go_simp
      exact hK _ _ (fun k v _ _ h => h) (fun t ht => rfl) hcm
    · have e1 : f 4 = .pointer (some ⟨p, 0, none⟩) := hf 1 _ _ rfl rfl (up_dep hr (by kernel_rfl))
      refine GJ.op hj hdo hr rfl _ hdi (fun K hK => ?_)
      clear hj hf hdo hdi
      rw [e1] at hK ⊢
      clear e1
      go_simp
      exact hK _ _ (fun k v _ _ h => h) (fun t ht => rfl) hcm
    · have e1 : f 5 = .pointer (some ⟨p, 3, none⟩) := hf 2 _ _ rfl rfl (up_dep hr (by kernel_rfl))
      obtain ⟨kc, klt⟩ := kcl hcm c3
      refine GJ.op hj hdo hr rfl _ hdi (fun K hK => ?_)
      clear hj hf hdo hdi
      rw [e1] at hK ⊢
      clear e1
      go_simp
      exact hK _ _ (fun k v _ _ h => h) (fun t ht => rfl) hcm
    · have e1 : f 6 = .int .i64 0 := hf 3 _ _ rfl rfl (up_dep hr (by kernel_rfl))
      refine GJ.op hj hdo hr rfl _ hdi (fun K hK => ?_)
      clear hj hf hdo hdi
      rw [e1] at hK ⊢
      clear e1
      go_simp
      exact hK _ _ (fun k v _ _ h => h) (fun t ht => rfl) hcm
    · have e1 : f 7 = .bool false := hf 4 _ _ rfl rfl (up_dep hr (by kernel_rfl))
      refine GJ.op hj hdo hr rfl _ hdi (fun K hK => ?_)
      clear hj hf hdo hdi
      rw [e1] at hK ⊢
      clear e1
      go_simp
      exact hK _ _ (fun k v _ _ h => h) (fun t ht => rfl) hcm
    · have gg : f 8 = .bool false := hf 5 _ _ rfl rfl (up_dep hr (by kernel_rfl))
      refine GJ.yes hj hdo hr rfl _ hdi rfl (j := 5) rfl rfl (c := false) gg rfl (fun K hK => ?_)
      clear gg
      clear hj hf hdo hdi
      go_simp
      exact hK _ _ (fun k v _ _ h => h) (fun t ht => rfl) hcm
    · have gg : f 8 = .bool false := hf 5 _ _ rfl rfl (up_dep hr (by kernel_rfl))
      have e1 : f 9 = .pointer (some ⟨p, 0, none⟩) := hf 6 _ _ rfl rfl (up_dep hr (by kernel_rfl))
      obtain ⟨kc, klt⟩ := kcl hcm c3
      refine GJ.yes hj hdo hr rfl _ hdi rfl (j := 5) rfl rfl (c := false) gg rfl (fun K hK => ?_)
      clear gg
      clear hj hf hdo hdi
      rw [e1] at hK ⊢
      clear e1
      go_simp
      exact hK _ _ (fun k v _ _ h => h) (fun t ht => rfl) hcm
    · have gg : f 8 = .bool false := hf 5 _ _ rfl rfl (up_dep hr (by kernel_rfl))
      have e1 : f 10 = .pointer (some ⟨p, 0, none⟩) := hf 7 _ _ rfl rfl (up_dep hr (by kernel_rfl))
      refine GJ.yes hj hdo hr rfl _ hdi rfl (j := 5) rfl rfl (c := false) gg rfl (fun K hK => ?_)
      clear gg
      clear hj hf hdo hdi
      rw [e1] at hK ⊢
      clear e1
      go_simp
      exact hK _ _ (fun k v _ _ h => h) (fun t ht => rfl) hcm
    · have gg : f 8 = .bool false := hf 5 _ _ rfl rfl (up_dep hr (by kernel_rfl))
      have e1 : f 11 = .pointer (some ⟨p, 1, none⟩) := hf 8 _ _ rfl rfl (up_dep hr (by kernel_rfl))
      obtain ⟨kc, klt⟩ := kcl hcm c1
      refine GJ.yes hj hdo hr rfl _ hdi rfl (j := 5) rfl rfl (c := false) gg rfl (fun K hK => ?_)
      clear gg
      clear hj hf hdo hdi
      rw [e1] at hK ⊢
      clear e1
      go_simp
      exact hK _ _ (fun k v _ _ h => h) (fun t ht => rfl) hcm
    · have gg : f 8 = .bool false := hf 5 _ _ rfl rfl (up_dep hr (by kernel_rfl))
      refine GJ.yes hj hdo hr rfl _ hdi rfl (j := 5) rfl rfl (c := false) gg rfl (fun K hK => ?_)
      clear gg
      clear hj hf hdo hdi
      go_simp
      exact hK _ _ (fun k v _ _ h => h) (fun t ht => rfl) hcm
    · have gg : f 8 = .bool false := hf 5 _ _ rfl rfl (up_dep hr (by kernel_rfl))
      have e1 : f 13 = .pointer (some ⟨p, 0, none⟩) := hf 10 _ _ rfl rfl (up_dep hr (by kernel_rfl))
      obtain ⟨kc, klt⟩ := kcl hcm c3
      refine GJ.yes hj hdo hr rfl _ hdi rfl (j := 5) rfl rfl (c := false) gg rfl (fun K hK => ?_)
      clear gg
      clear hj hf hdo hdi
      rw [e1] at hK ⊢
      clear e1
      go_simp
      exact hK _ _ (fun k v _ _ h => h) (fun t ht => rfl) hcm
    · have gg : f 8 = .bool false := hf 5 _ _ rfl rfl (up_dep hr (by kernel_rfl))
      have e1 : f 14 = .pointer (some ⟨p, 0, none⟩) := hf 11 _ _ rfl rfl (up_dep hr (by kernel_rfl))
      refine GJ.yes hj hdo hr rfl _ hdi rfl (j := 5) rfl rfl (c := false) gg rfl (fun K hK => ?_)
      clear gg
      clear hj hf hdo hdi
      rw [e1] at hK ⊢
      clear e1
      go_simp
      exact hK _ _ (fun k v _ _ h => h) (fun t ht => rfl) hcm
    · have gg : f 8 = .bool false := hf 5 _ _ rfl rfl (up_dep hr (by kernel_rfl))
      have e1 : f 15 = .pointer (some ⟨p, 0, none⟩) := hf 12 _ _ rfl rfl (up_dep hr (by kernel_rfl))
      obtain ⟨kc, klt⟩ := kcl hcm c0
      refine GJ.yes hj hdo hr rfl _ hdi rfl (j := 5) rfl rfl (c := false) gg rfl (fun K hK => ?_)
      clear gg
      clear hj hf hdo hdi
      rw [e1] at hK ⊢
      clear e1
      go_simp
      exact hK _ _ (fun k v _ _ h => h) (fun t ht => rfl) hcm
    · have gg : f 8 = .bool false := hf 5 _ _ rfl rfl (up_dep hr (by kernel_rfl))
      have e1 : f 16 = .slice (some ⟨b, o, none⟩) n cap := hf 13 _ _ rfl rfl (up_dep hr (by kernel_rfl))
      refine GJ.yes hj hdo hr rfl _ hdi rfl (j := 5) rfl rfl (c := false) gg rfl (fun K hK => ?_)
      clear gg
      clear hj hf hdo hdi
      rw [e1] at hK ⊢
      clear e1
      go_simp
      exact hK _ _ (fun k v _ _ h => h) (fun t ht => rfl) hcm
    · have gg : f 8 = .bool false := hf 5 _ _ rfl rfl (up_dep hr (by kernel_rfl))
      have e1 : f 12 = .int .i64 (k : Int) := hf 9 _ _ rfl rfl (up_dep hr (by kernel_rfl))
      have e2 : f 17 = .int .i64 (n : Int) := hf 14 _ _ rfl rfl (up_dep hr (by kernel_rfl))
      have q1 := Q1.out
      have q2 := Q2.out
      have q3 := Q3.out
      have q7 := Q7.out
      have q8 := Q8.out
      refine GJ.yes hj hdo hr rfl _ hdi rfl (j := 5) rfl rfl (c := false) gg rfl (fun K hK => ?_)
      clear gg
      clear hj hf hdo hdi
      rw [e1, e2] at hK ⊢
      clear e1 e2
      go_simp
      exact hK _ _ (fun k v _ _ h => h) (fun t ht => rfl) hcm
    · have e1 : f 8 = .bool false := hf 5 _ _ rfl rfl (up_dep hr (by kernel_rfl))
      have e2 : f 18 = .bool false := hf 15 _ _ rfl rfl (up_dep hr (by kernel_rfl))
      refine GJ.op hj hdo hr rfl _ hdi (fun K hK => ?_)
      clear hj hf hdo hdi
      rw [e1, e2] at hK ⊢
      clear e1 e2
      go_simp
      exact hK _ _ (fun k v _ _ h => h) (fun t ht => rfl) hcm
    · have e1 : f 19 = .bool false := hf 16 _ _ rfl rfl (up_dep hr (by kernel_rfl))
      refine GJ.op hj hdo hr rfl _ hdi (fun K hK => ?_)
      clear hj hf hdo hdi
      rw [e1] at hK ⊢
      clear e1
      go_simp
      exact hK _ _ (fun k v _ _ h => h) (fun t ht => rfl) hcm
    · have gg : f 20 = .bool false := hf 17 _ _ rfl rfl (up_dep hr (by kernel_rfl))
      refine GJ.yes hj hdo hr rfl _ hdi rfl (j := 17) rfl rfl (c := false) gg rfl (fun K hK => ?_)
      clear gg
      clear hj hf hdo hdi
      go_simp
      exact hK _ _ (fun k v _ _ h => h) (fun t ht => rfl) hcm
    · have gg : f 20 = .bool false := hf 17 _ _ rfl rfl (up_dep hr (by kernel_rfl))
      have e1 : f 21 = .pointer (some ⟨p, 0, none⟩) := hf 18 _ _ rfl rfl (up_dep hr (by kernel_rfl))
      obtain ⟨kc, klt⟩ := kcl hcm c3
      refine GJ.yes hj hdo hr rfl _ hdi rfl (j := 17) rfl rfl (c := false) gg rfl (fun K hK => ?_)
      clear gg
      clear hj hf hdo hdi
      rw [e1] at hK ⊢
      clear e1
      go_simp
      exact hK _ _ (fun k v _ _ h => h) (fun t ht => rfl) hcm
    · have gg : f 20 = .bool false := hf 17 _ _ rfl rfl (up_dep hr (by kernel_rfl))
      have e1 : f 22 = .pointer (some ⟨p, 0, none⟩) := hf 19 _ _ rfl rfl (up_dep hr (by kernel_rfl))
      refine GJ.yes hj hdo hr rfl _ hdi rfl (j := 17) rfl rfl (c := false) gg rfl (fun K hK => ?_)
      clear gg
      clear hj hf hdo hdi
      rw [e1] at hK ⊢
      clear e1
      go_simp
      exact hK _ _ (fun k v _ _ h => h) (fun t ht => rfl) hcm
    · have gg : f 20 = .bool false := hf 17 _ _ rfl rfl (up_dep hr (by kernel_rfl))
      have e1 : f 23 = .pointer (some ⟨p, 0, none⟩) := hf 20 _ _ rfl rfl (up_dep hr (by kernel_rfl))
      obtain ⟨kc, klt⟩ := kcl hcm c0
      refine GJ.yes hj hdo hr rfl _ hdi rfl (j := 17) rfl rfl (c := false) gg rfl (fun K hK => ?_)
      clear gg
      clear hj hf hdo hdi
      rw [e1] at hK ⊢
      clear e1
      go_simp
      exact hK _ _ (fun k v _ _ h => h) (fun t ht => rfl) hcm
    · have gg : f 20 = .bool false := hf 17 _ _ rfl rfl (up_dep hr (by kernel_rfl))
      refine GJ.yes hj hdo hr rfl _ hdi rfl (j := 17) rfl rfl (c := false) gg rfl (fun K hK => ?_)
      clear gg
      clear hj hf hdo hdi
      go_simp
      exact hK _ _ (fun k v _ _ h => h) (fun t ht => rfl) hcm
    · have gg : f 20 = .bool false := hf 17 _ _ rfl rfl (up_dep hr (by kernel_rfl))
      have e1 : f 25 = .pointer (some ⟨p, 0, none⟩) := hf 22 _ _ rfl rfl (up_dep hr (by kernel_rfl))
      obtain ⟨kc, klt⟩ := kcl hcm c3
      refine GJ.yes hj hdo hr rfl _ hdi rfl (j := 17) rfl rfl (c := false) gg rfl (fun K hK => ?_)
      clear gg
      clear hj hf hdo hdi
      rw [e1] at hK ⊢
      clear e1
      go_simp
      exact hK _ _ (fun k v _ _ h => h) (fun t ht => rfl) hcm
    · have gg : f 20 = .bool false := hf 17 _ _ rfl rfl (up_dep hr (by kernel_rfl))
      have e1 : f 26 = .pointer (some ⟨p, 0, none⟩) := hf 23 _ _ rfl rfl (up_dep hr (by kernel_rfl))
      refine GJ.yes hj hdo hr rfl _ hdi rfl (j := 17) rfl rfl (c := false) gg rfl (fun K hK => ?_)
      clear gg
      clear hj hf hdo hdi
      rw [e1] at hK ⊢
      clear e1
      go_simp
      exact hK _ _ (fun k v _ _ h => h) (fun t ht => rfl) hcm
    · have gg : f 20 = .bool false := hf 17 _ _ rfl rfl (up_dep hr (by kernel_rfl))
      have e1 : f 27 = .pointer (some ⟨p, 1, none⟩) := hf 24 _ _ rfl rfl (up_dep hr (by kernel_rfl))
      obtain ⟨kc, klt⟩ := kcl hcm c1
      refine GJ.yes hj hdo hr rfl _ hdi rfl (j := 17) rfl rfl (c := false) gg rfl (fun K hK => ?_)
      clear gg
      clear hj hf hdo hdi
      rw [e1] at hK ⊢
      clear e1
      go_simp
      exact hK _ _ (fun k v _ _ h => h) (fun t ht => rfl) hcm
    · have gg : f 20 = .bool false := hf 17 _ _ rfl rfl (up_dep hr (by kernel_rfl))
      have e1 : f 24 = .slice (some ⟨b, o, none⟩) n cap := hf 21 _ _ rfl rfl (up_dep hr (by kernel_rfl))
      have e2 : f 28 = .int .i64 (k : Int) := hf 25 _ _ rfl rfl (up_dep hr (by kernel_rfl))
      have q1 := Q1.out
      have q2 := Q2.out
      have q3 := Q3.out
      have q7 := Q7.out
      have q8 := Q8.out
      refine GJ.yes hj hdo hr rfl _ hdi rfl (j := 17) rfl rfl (c := false) gg rfl (fun K hK => ?_)
      clear gg
      clear hj hf hdo hdi
      rw [e1, e2] at hK ⊢
      clear e1 e2
      go_simp
      exact hK _ _ (fun k v _ _ h => h) (fun t ht => rfl) hcm
    · have gg : f 20 = .bool false := hf 17 _ _ rfl rfl (up_dep hr (by kernel_rfl))
      have e1 : f 29 = .pointer (some ⟨b, o + k * 4, none⟩) := hf 26 _ _ rfl rfl (up_dep hr (by kernel_rfl))
      obtain ⟨kc, klt⟩ := kcl hcm k0
      refine GJ.yes hj hdo hr rfl _ hdi rfl (j := 17) rfl rfl (c := false) gg rfl (fun K hK => ?_)
      clear gg
      clear hj hf hdo hdi
      rw [e1] at hK ⊢
      clear e1
      go_simp
      exact hK _ _ (fun k v _ _ h => h) (fun t ht => rfl) hcm
    · have gg : f 20 = .bool false := hf 17 _ _ rfl rfl (up_dep hr (by kernel_rfl))
      have e1 : f 30 = .pointer (some ⟨b, o + k * 4, none⟩) := hf 27 _ _ rfl rfl (up_dep hr (by kernel_rfl))
      obtain ⟨kc, klt⟩ := kcl hcm k0
      refine GJ.yes hj hdo hr rfl _ hdi rfl (j := 17) rfl rfl (c := false) gg rfl (fun K hK => ?_)
      clear gg
      clear hj hf hdo hdi
      rw [e1] at hK ⊢
      clear e1
      go_simp
      exact hK _ _ (fun k v _ _ h => h) (fun t ht => rfl) hcm
    · have gg : f 20 = .bool false := hf 17 _ _ rfl rfl (up_dep hr (by kernel_rfl))
      have e1 : f 31 = .int .u8 (kd : Int) := hf 28 _ _ rfl rfl (up_dep hr (by kernel_rfl))
      have q4 := Q4.out
      refine GJ.yes hj hdo hr rfl _ hdi rfl (j := 17) rfl rfl (c := false) gg rfl (fun K hK => ?_)
      clear gg
      clear hj hf hdo hdi
      rw [e1] at hK ⊢
      clear e1
      go_simp
      exact hK _ _ (fun k v _ _ h => h) (fun t ht => rfl) hcm
    · have e1 : f 20 = .bool false := hf 17 _ _ rfl rfl (up_dep hr (by kernel_rfl))
      have e2 : f 32 = .bool false := hf 29 _ _ rfl rfl (up_dep hr (by kernel_rfl))
      refine GJ.op hj hdo hr rfl _ hdi (fun K hK => ?_)
      clear hj hf hdo hdi
      rw [e1, e2] at hK ⊢
      clear e1 e2
      go_simp
      exact hK _ _ (fun k v _ _ h => h) (fun t ht => rfl) hcm
    · have e1 : f 33 = .bool false := hf 30 _ _ rfl rfl (up_dep hr (by kernel_rfl))
      refine GJ.op hj hdo hr rfl _ hdi (fun K hK => ?_)
      clear hj hf hdo hdi
      rw [e1] at hK ⊢
      clear e1
      go_simp
      exact hK _ _ (fun k v _ _ h => h) (fun t ht => rfl) hcm
    · have gg : f 34 = .bool false := hf 31 _ _ rfl rfl (up_dep hr (by kernel_rfl))
      refine GJ.yes hj hdo hr rfl _ hdi rfl (j := 31) rfl rfl (c := false) gg rfl (fun K hK => ?_)
      clear gg
      clear hj hf hdo hdi
      go_simp
      exact hK _ _ (fun k v _ _ h => h) (fun t ht => rfl) hcm
    · have gg : f 34 = .bool false := hf 31 _ _ rfl rfl (up_dep hr (by kernel_rfl))
      have e1 : f 35 = .pointer (some ⟨p, 0, none⟩) := hf 32 _ _ rfl rfl (up_dep hr (by kernel_rfl))
      obtain ⟨kc, klt⟩ := kcl hcm c3
      refine GJ.yes hj hdo hr rfl _ hdi rfl (j := 31) rfl rfl (c := false) gg rfl (fun K hK => ?_)
      clear gg
      clear hj hf hdo hdi
      rw [e1] at hK ⊢
      clear e1
      go_simp
      exact hK _ _ (fun k v _ _ h => h) (fun t ht => rfl) hcm
    · have gg : f 34 = .bool false := hf 31 _ _ rfl rfl (up_dep hr (by kernel_rfl))
      have e1 : f 36 = .pointer (some ⟨p, 0, none⟩) := hf 33 _ _ rfl rfl (up_dep hr (by kernel_rfl))
      refine GJ.yes hj hdo hr rfl _ hdi rfl (j := 31) rfl rfl (c := false) gg rfl (fun K hK => ?_)
      clear gg
      clear hj hf hdo hdi
      rw [e1] at hK ⊢
      clear e1
      go_simp
      exact hK _ _ (fun k v _ _ h => h) (fun t ht => rfl) hcm
    · have gg : f 34 = .bool false := hf 31 _ _ rfl rfl (up_dep hr (by kernel_rfl))
      have e1 : f 37 = .pointer (some ⟨p, 0, none⟩) := hf 34 _ _ rfl rfl (up_dep hr (by kernel_rfl))
      obtain ⟨kc, klt⟩ := kcl hcm c0
      refine GJ.yes hj hdo hr rfl _ hdi rfl (j := 31) rfl rfl (c := false) gg rfl (fun K hK => ?_)
      clear gg
      clear hj hf hdo hdi
      rw [e1] at hK ⊢
      clear e1
      go_simp
      exact hK _ _ (fun k v _ _ h => h) (fun t ht => rfl) hcm
    · have gg : f 34 = .bool false := hf 31 _ _ rfl rfl (up_dep hr (by kernel_rfl))
      refine GJ.yes hj hdo hr rfl _ hdi rfl (j := 31) rfl rfl (c := false) gg rfl (fun K hK => ?_)
      clear gg
      clear hj hf hdo hdi
      go_simp
      exact hK _ _ (fun k v _ _ h => h) (fun t ht => rfl) hcm
    · have gg : f 34 = .bool false := hf 31 _ _ rfl rfl (up_dep hr (by kernel_rfl))
      have e1 : f 39 = .pointer (some ⟨p, 0, none⟩) := hf 36 _ _ rfl rfl (up_dep hr (by kernel_rfl))
      obtain ⟨kc, klt⟩ := kcl hcm c3
      refine GJ.yes hj hdo hr rfl _ hdi rfl (j := 31) rfl rfl (c := false) gg rfl (fun K hK => ?_)
      clear gg
      clear hj hf hdo hdi
      rw [e1] at hK ⊢
      clear e1
      go_simp
      exact hK _ _ (fun k v _ _ h => h) (fun t ht => rfl) hcm
    · have gg : f 34 = .bool false := hf 31 _ _ rfl rfl (up_dep hr (by kernel_rfl))
      have e1 : f 40 = .pointer (some ⟨p, 0, none⟩) := hf 37 _ _ rfl rfl (up_dep hr (by kernel_rfl))
      refine GJ.yes hj hdo hr rfl _ hdi rfl (j := 31) rfl rfl (c := false) gg rfl (fun K hK => ?_)
      clear gg
      clear hj hf hdo hdi
      rw [e1] at hK ⊢
      clear e1
      go_simp
      exact hK _ _ (fun k v _ _ h => h) (fun t ht => rfl) hcm
    · have gg : f 34 = .bool false := hf 31 _ _ rfl rfl (up_dep hr (by kernel_rfl))
      have e1 : f 41 = .pointer (some ⟨p, 1, none⟩) := hf 38 _ _ rfl rfl (up_dep hr (by kernel_rfl))
      obtain ⟨kc, klt⟩ := kcl hcm c1
      refine GJ.yes hj hdo hr rfl _ hdi rfl (j := 31) rfl rfl (c := false) gg rfl (fun K hK => ?_)
      clear gg
      clear hj hf hdo hdi
      rw [e1] at hK ⊢
      clear e1
      go_simp
      exact hK _ _ (fun k v _ _ h => h) (fun t ht => rfl) hcm
    · have gg : f 34 = .bool false := hf 31 _ _ rfl rfl (up_dep hr (by kernel_rfl))
      have e1 : f 38 = .slice (some ⟨b, o, none⟩) n cap := hf 35 _ _ rfl rfl (up_dep hr (by kernel_rfl))
      have e2 : f 42 = .int .i64 (k : Int) := hf 39 _ _ rfl rfl (up_dep hr (by kernel_rfl))
      have q1 := Q1.out
      have q2 := Q2.out
      have q3 := Q3.out
      have q7 := Q7.out
      have q8 := Q8.out
      refine GJ.yes hj hdo hr rfl _ hdi rfl (j := 31) rfl rfl (c := false) gg rfl (fun K hK => ?_)
      clear gg
      clear hj hf hdo hdi
      rw [e1, e2] at hK ⊢
      clear e1 e2
      go_simp
      exact hK _ _ (fun k v _ _ h => h) (fun t ht => rfl) hcm
    · have gg : f 34 = .bool false := hf 31 _ _ rfl rfl (up_dep hr (by kernel_rfl))
      have e1 : f 43 = .pointer (some ⟨b, o + k * 4, none⟩) := hf 40 _ _ rfl rfl (up_dep hr (by kernel_rfl))
      obtain ⟨kc, klt⟩ := kcl hcm k1
      refine GJ.yes hj hdo hr rfl _ hdi rfl (j := 31) rfl rfl (c := false) gg rfl (fun K hK => ?_)
      clear gg
      clear hj hf hdo hdi
      rw [e1] at hK ⊢
      clear e1
      go_simp
      exact hK _ _ (fun k v _ _ h => h) (fun t ht => rfl) hcm
    · have gg : f 34 = .bool false := hf 31 _ _ rfl rfl (up_dep hr (by kernel_rfl))
      have e1 : f 44 = .pointer (some ⟨b, o + k * 4 + 1, none⟩) := hf 41 _ _ rfl rfl (up_dep hr (by kernel_rfl))
      obtain ⟨kc, klt⟩ := kcl hcm k1
      refine GJ.yes hj hdo hr rfl _ hdi rfl (j := 31) rfl rfl (c := false) gg rfl (fun K hK => ?_)
      clear gg
      clear hj hf hdo hdi
      rw [e1] at hK ⊢
      clear e1
      go_simp
      exact hK _ _ (fun k v _ _ h => h) (fun t ht => rfl) hcm
  · intro listed a w10 hu hj
    obtain ⟨f, hae, hcm, hf⟩ := hj.opened [3, 4, 5, 6, 7, 8, 9, 10, 11, 12, 13, 14, 15, 16, 17, 18, 19, 20, 21, 22, 23, 24, 25, 26, 27, 28, 29, 30, 31, 32, 33, 34, 35, 36, 37, 38, 39, 40, 41, 42, 43, 44, 45, 46, 47] (by kernel_rfl)
    simp only [List.foldl_cons, List.foldl_nil, List.setIfInBounds_toArray, List.set_cons_zero, List.set_cons_succ] at hae
    subst hae
    replace hcm : Below w.heap.size w w10 := hcm
    have E31 : f 34 = .bool false := hf 31 _ _ rfl rfl (hu 31 (by omega))
    have E42 : f 45 = .string (bs x) := hf 42 _ _ rfl rfl (hu 42 (by omega))
    have HCM := Lib.hid hcm
    clear hcm hf hj hu
    rw [E31, E42]
    clear E31 E42
    generalize f 3 = g3
    generalize f 4 = g4
    generalize f 5 = g5
    generalize f 6 = g6
    generalize f 7 = g7
    generalize f 8 = g8
    generalize f 9 = g9
    generalize f 10 = g10
    generalize f 11 = g11
    generalize f 12 = g12
    generalize f 13 = g13
    generalize f 14 = g14
    generalize f 15 = g15
    generalize f 16 = g16
    generalize f 17 = g17
    generalize f 18 = g18
    generalize f 19 = g19
    generalize f 20 = g20
    generalize f 21 = g21
    generalize f 22 = g22
    generalize f 23 = g23
    generalize f 24 = g24
    generalize f 25 = g25
    generalize f 26 = g26
    generalize f 27 = g27
    generalize f 28 = g28
    generalize f 29 = g29
    generalize f 30 = g30
    generalize f 31 = g31
    generalize f 32 = g32
    generalize f 33 = g33
    generalize f 35 = g35
    generalize f 36 = g36
    generalize f 37 = g37
    generalize f 38 = g38
    generalize f 39 = g39
    generalize f 40 = g40
    generalize f 41 = g41
    generalize f 42 = g42
    generalize f 43 = g43
    generalize f 44 = g44
    generalize f 46 = g46
    generalize f 47 = g47
    clear f
    simp only [List.drop_succ_cons, List.drop_zero]
    go_wp2_with fail
    refine (rWord_c _ x).mono ?_
    rintro e w11 ⟨rfl, hb⟩
    have HB := Lib.hid (HCM.out.trans (hb.mono HCM.out.size))
    clear hb
    go_wp2_with fail
    exact hQ.out _ _ _ _ _ _ _ _ _ _ _ _ _ _ _ _ _ _ _ _ _ _ _ _ _ _ _ _ _ _ _ _ _ _ _ _ _ _ _ _ _ _ _ _ _ HB.out
end Go.Proofs.YtganlldidjbpiaaGreatDoor
