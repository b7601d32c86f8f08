/- Walks of package syntax: formed, the domain. -/
import Derived.Test.YtganlldidjbpiaaGreatDoorK19
set_option linter.unusedVariables false
namespace Go.Proofs.YtganlldidjbpiaaGreatDoor
open Go.RowKit Go.Shelf

set_option maxRecDepth 100000 in
set_option maxHeartbeats 8000000 in
theorem formed_r7 (ops : Array Oper) (hops : (Tryz.f30.body.bind (regOf 7)) = some ops) {N C PB cn cp : Nat} {qn qp : Option Addr} {D : Nat → Prop} {c : Cl} {w2 : World} {Q : Exit → Act → World → Prop} {x0 x1 x3 x4 x5 x6 x7 x9 x10 x11 x12 x13 x14 x15 x16 x17 x18 x19 x20 x21 x22 x23 x24 x25 x26 x27 x28 x29 x30 x31 x32 x33 x34 x35 x36 x37 x38 x39 x40 x41 x42 x43 x44 x45 x46 x47 x48 x49 x50 x51 x52 x53 x54 x55 x56 x57 x58 x59 x60 x61 x62 x63 x64 x65 x66 x67 x68 x69 x70 x71 x72 x73 x74 x75 x76 x77 x78 x79 x80 x81 x82 x83 x84 x85 x86 x87 x88 x89 x90 x91 x92 x93 x94 x95 x96 x97 x98 x99 x100 x101 x102 x103 x104 x105 x106 x107 x108 x109 x110 x111 x112 x113 x114 x115 x116 x117 x118 x119 x120 : Value} (hk0 : w2.cell? ⟨C, 0, none⟩ = some (.int .u8 (c.kind : Int))) (hk1 : w2.cell? ⟨C, 1, none⟩ = some (.slice qn c.names.length cn)) (hk2 : w2.cell? ⟨C, 2, none⟩ = some (.int .u8 (c.dom : Int))) (hk3 : w2.cell? ⟨C, 3, none⟩ = some (.int .i64 c.idx)) (hk4 : w2.cell? ⟨C, 4, none⟩ = some (.int .i64 c.a)) (hk5 : w2.cell? ⟨C, 5, none⟩ = some (.int .i64 c.b)) (hkp : w2.cell? ⟨PB, 0, none⟩ = some (.slice qp (partsOf c.kind).length cp)) (hpl : SlP D w2 (.slice qp (partsOf c.kind).length cp) (partsOf c.kind)) (he : Wds N w2)
    (hQ : ∀ (W : World) (y51 y52 y53 y54 y55 y56 y57 y58 y59 y60 y61 y62 y63 y64 y65 y66 y67 : Value), Below w2.heap.size w2 W → Q .normal ⟨[x0, x1, .pointer (some ⟨C, 0, none⟩), x3, x4, x5, x6, x7, .func (.func 54) #[] #[.pointer (some ⟨PB, 0, none⟩)], x9, x10, x11, x12, x13, x14, x15, x16, x17, x18, x19, x20, x21, x22, x23, x24, x25, x26, x27, x28, x29, x30, x31, x32, x33, x34, x35, x36, x37, x38, x39, x40, x41, x42, x43, x44, x45, x46, x47, x48, x49, .bool (((hasF c.kind 6 != decide (okDom c.dom)) || (!(hasF c.kind 6) && decide (c.dom ≠ 0)))), y51, y52, y53, y54, y55, y56, y57, y58, y59, y60, y61, y62, y63, y64, y65, y66, y67, x68, x69, x70, x71, x72, x73, x74, x75, x76, x77, x78, x79, x80, x81, x82, x83, x84, x85, x86, x87, x88, x89, x90, x91, x92, x93, x94, x95, x96, x97, x98, x99, x100, x101, x102, x103, x104, x105, x106, x107, x108, x109, x110, x111, x112, x113, x114, x115, x116, x117, x118, x119, x120].toArray, []⟩ W) :
    (Code.region 7 ops true).wp Tryz.prog Q ⟨[x0, x1, .pointer (some ⟨C, 0, none⟩), x3, x4, x5, x6, x7, .func (.func 54) #[] #[.pointer (some ⟨PB, 0, none⟩)], x9, x10, x11, x12, x13, x14, x15, x16, x17, x18, x19, x20, x21, x22, x23, x24, x25, x26, x27, x28, x29, x30, x31, x32, x33, x34, x35, x36, x37, x38, x39, x40, x41, x42, x43, x44, x45, x46, x47, x48, x49, x50, x51, x52, x53, x54, x55, x56, x57, x58, x59, x60, x61, x62, x63, x64, x65, x66, x67, x68, x69, x70, x71, x72, x73, x74, x75, x76, x77, x78, x79, x80, x81, x82, x83, x84, x85, x86, x87, x88, x89, x90, x91, x92, x93, x94, x95, x96, x97, x98, x99, x100, x101, x102, x103, x104, x105, x106, x107, x108, x109, x110, x111, x112, x113, x114, x115, x116, x117, x118, x119, x120].toArray, []⟩ w2 := by
  simp only [Tryz.f30, Option.bind_some, regOf] at hops
  replace hops := Option.some.inj hops
  subst hops
  replace hQ := Lib.hid hQ
  obtain ⟨b6, hb6⟩ : ∃ b, hasF c.kind 6 = b := ⟨_, rfl⟩
  replace hb6 := Lib.hid hb6
  rw [hb6.out] at hQ
  obtain ⟨vd, g1, _, hdm⟩ := he.2.2
  obtain ⟨bd, od, cd, hvd, _, _, _, _, _⟩ := hdm.at_ (by omega)
  subst hvd
  replace hdm := Lib.hid hdm
  clear he
  obtain ⟨dk, hdk⟩ : ∃ b, decide (okDom c.dom) = b := ⟨_, rfl⟩
  replace hdk := Lib.hid hdk
  rw [hdk.out] at hQ
  cases b6 with
  | true =>
    cases dk with
    | true =>
      simp only [bne_self_eq_false, Bool.not_true, Bool.false_and, Bool.or_false] at hQ
      refine wp_region_gj (J := GJ _ (SKS (S := (fun _ => False)) (fun κ => match κ with | 0 => KS.eq (.func (.func 54) #[] #[.pointer (some ⟨PB, 0, none⟩)]) | 1 => KS.eq (.bool true) | 2 => KS.eq (.slice (some ⟨bd, od, none⟩) 5 cd) | 3 => KS.eq (.pointer (some ⟨C, 2, none⟩)) | 4 => KS.eq (.int .u8 (c.dom : Int)) | 5 => KS.eq (.bool true) | 6 => KS.eq (.bool false) | 7 => KS.eq (.bool false) | 8 => KS.eq (.func (.func 54) #[] #[.pointer (some ⟨PB, 0, none⟩)]) | 9 => KS.eq (.bool true) | 10 => KS.eq (.bool false) | 11 => KS.eq (.bool false) | 12 => KS.eq undef | 13 => KS.eq undef | 14 => KS.eq undef | 15 => KS.eq (.bool false) | 16 => KS.eq (.bool false) | 17 => KS.eq (.bool false) | _ => KS.any)) (fun _ _ w => Below w2.heap.size w2 w) _) (by kernel_rfl) ?_ ?_ (GJ.start (below_dr (Below.refl _ _)))
      · intro listed a w9 i hr hj
        obtain ⟨hi12, hun, _, _, _⟩ := ready_mem hr
        have h12 : i ∈ List.range 18 := List.mem_range.2 hi12
        simp only [List.range, List.range.loop, List.mem_cons, List.not_mem_nil, or_false] at h12
        obtain ⟨f, hae, hcm, hf, hdo, hdi⟩ := hj.open3 [51, 52, 53, 54, 55, 56, 57, 58, 59, 60, 61, 62, 63, 64, 65, 66, 67, 50] (by kernel_rfl) (by kernel_rfl)
        simp only [List.foldl_cons, List.foldl_nil, List.setIfInBounds_toArray, List.set_cons_zero, List.set_cons_succ] at hae
        subst hae
        replace hcm : Below w2.heap.size w2 w9 := hcm
        rcases h12 with rfl | rfl | rfl | rfl | rfl | rfl | rfl | rfl | rfl | rfl | rfl | rfl | rfl | rfl | rfl | rfl | rfl | rfl
        · refine GJ.op hj hdo hr rfl _ hdi (fun K hK => ?_)
          clear hj hf hdo hdi
          go_simp
          exact hK _ _ (fun k v _ _ h => h) (fun t ht => rfl) hcm
        · have e1 : f 51 = .func (.func 54) #[] #[.pointer (some ⟨PB, 0, none⟩)] := hf 0 _ _ rfl rfl (up_dep hr (by kernel_rfl))
          have kc := keep_cell hcm hkp
          have klt := World.block_lt_of_cell? _ _ kc
          simp only at klt
          refine GJ.op hj hdo hr rfl _ hdi (fun K hK => ?_)
          clear hj hf hdo hdi
          rw [e1] at hK ⊢
          clear e1
          go_simp
          refine (has_c _ w9 c.kind 6 PB _ (keep_cell hcm hkp) (SlP.after hpl hcm)).mono ?_
          rw [hb6.out]
          rintro e w10 ⟨rfl, hb10⟩
          exact hK _ _ (fun k v _ _ h => KS.st _ _ _ _ (Fx.of_below hb10) h) (fun t ht => rfl) (hcm.trans (hb10.mono hcm.size))
        · have kc := keep_cell hcm g1
          refine GJ.op hj hdo hr rfl _ hdi (fun K hK => ?_)
          clear hj hf hdo hdi
          go_simp
          exact hK _ _ (fun k v _ _ h => h) (fun t ht => rfl) hcm
        · refine GJ.op hj hdo hr rfl _ hdi (fun K hK => ?_)
          clear hj hf hdo hdi
          go_simp
          exact hK _ _ (fun k v _ _ h => h) (fun t ht => rfl) hcm
        · have e1 : f 54 = .pointer (some ⟨C, 2, none⟩) := hf 3 _ _ rfl rfl (up_dep hr (by kernel_rfl))
          obtain ⟨kc, klt⟩ := kcl hcm hk2
          refine GJ.op hj hdo hr rfl _ hdi (fun K hK => ?_)
          clear hj hf hdo hdi
          rw [e1] at hK ⊢
          clear e1
          go_simp
          exact hK _ _ (fun k v _ _ h => h) (fun t ht => rfl) hcm
        · have e1 : f 53 = .slice (some ⟨bd, od, none⟩) 5 cd := hf 2 _ _ rfl rfl (up_dep hr (by kernel_rfl))
          have e2 : f 55 = .int .u8 (c.dom : Int) := hf 4 _ _ rfl rfl (up_dep hr (by kernel_rfl))
          refine GJ.op hj hdo hr rfl _ hdi (fun K hK => ?_)
          clear hj hf hdo hdi
          rw [e1, e2] at hK ⊢
          clear e1 e2
          go_simp
          refine (containsD_c _ w9 _ c.dom (hdm.out.after hcm)).mono ?_
          rw [hdk.out]
          rintro e w10 ⟨rfl, hb10⟩
          exact hK _ _ (fun k v _ _ h => KS.st _ _ _ _ (Fx.of_below hb10) h) (fun t ht => rfl) (hcm.trans (hb10.mono hcm.size))
        · have e1 : f 52 = .bool true := hf 1 _ _ rfl rfl (up_dep hr (by kernel_rfl))
          have e2 : f 56 = .bool true := hf 5 _ _ rfl rfl (up_dep hr (by kernel_rfl))
          refine GJ.op hj hdo hr rfl _ hdi (fun K hK => ?_)
          clear hj hf hdo hdi
          rw [e1, e2] at hK ⊢
          clear e1 e2
          go_simp
          exact hK _ _ (fun k v _ _ h => h) (fun t ht => rfl) hcm
        · have e1 : f 57 = .bool false := hf 6 _ _ rfl rfl (up_dep hr (by kernel_rfl))
          refine GJ.op hj hdo hr rfl _ hdi (fun K hK => ?_)
          clear hj hf hdo hdi
          rw [e1] at hK ⊢
          clear e1
          go_simp
          exact hK _ _ (fun k v _ _ h => h) (fun t ht => rfl) hcm
        · have gg : f 58 = .bool false := hf 7 _ _ rfl rfl (up_dep hr (by kernel_rfl))
          refine GJ.yes hj hdo hr rfl _ hdi rfl (j := 7) rfl rfl (c := false) gg rfl (fun K hK => ?_)
          clear gg
          clear hj hf hdo hdi
          go_simp
          exact hK _ _ (fun k v _ _ h => h) (fun t ht => rfl) hcm
        · have gg : f 58 = .bool false := hf 7 _ _ rfl rfl (up_dep hr (by kernel_rfl))
          have e1 : f 59 = .func (.func 54) #[] #[.pointer (some ⟨PB, 0, none⟩)] := hf 8 _ _ rfl rfl (up_dep hr (by kernel_rfl))
          have kc := keep_cell hcm hkp
          have klt := World.block_lt_of_cell? _ _ kc
          simp only at klt
          refine GJ.yes hj hdo hr rfl _ hdi rfl (j := 7) rfl rfl (c := false) gg rfl (fun K hK => ?_)
          clear gg
          clear hj hf hdo hdi
          rw [e1] at hK ⊢
          clear e1
          go_simp
          refine (has_c _ w9 c.kind 6 PB _ (keep_cell hcm hkp) (SlP.after hpl hcm)).mono ?_
          rw [hb6.out]
          rintro e w10 ⟨rfl, hb10⟩
          exact hK _ _ (fun k v _ _ h => KS.st _ _ _ _ (Fx.of_below hb10) h) (fun t ht => rfl) (hcm.trans (hb10.mono hcm.size))
        · have gg : f 58 = .bool false := hf 7 _ _ rfl rfl (up_dep hr (by kernel_rfl))
          have e1 : f 60 = .bool true := hf 9 _ _ rfl rfl (up_dep hr (by kernel_rfl))
          refine GJ.yes hj hdo hr rfl _ hdi rfl (j := 7) rfl rfl (c := false) gg rfl (fun K hK => ?_)
          clear gg
          clear hj hf hdo hdi
          rw [e1] at hK ⊢
          clear e1
          go_simp
          exact hK _ _ (fun k v _ _ h => h) (fun t ht => rfl) hcm
        · have gg : f 58 = .bool false := hf 7 _ _ rfl rfl (up_dep hr (by kernel_rfl))
          have e1 : f 61 = .bool false := hf 10 _ _ rfl rfl (up_dep hr (by kernel_rfl))
          refine GJ.yes hj hdo hr rfl _ hdi rfl (j := 7) rfl rfl (c := false) gg rfl (fun K hK => ?_)
          clear gg
          clear hj hf hdo hdi
          rw [e1] at hK ⊢
          clear e1
          go_simp
          exact hK _ _ (fun k v _ _ h => h) (fun t ht => rfl) hcm
        · have gg : f 62 = .bool false := hf 11 _ _ rfl rfl (up_dep hr (by kernel_rfl))
          refine GJ.no hj hdo hr rfl _ hdi rfl (j := 11) rfl rfl (c := false) gg rfl (fun k v _ _ h => h) (fun t ht => rfl) ?_
          exact hcm
        · have gg : f 62 = .bool false := hf 11 _ _ rfl rfl (up_dep hr (by kernel_rfl))
          refine GJ.no hj hdo hr rfl _ hdi rfl (j := 11) rfl rfl (c := false) gg rfl (fun k v _ _ h => h) (fun t ht => rfl) ?_
          exact hcm
        · have gg : f 62 = .bool false := hf 11 _ _ rfl rfl (up_dep hr (by kernel_rfl))
          refine GJ.no hj hdo hr rfl _ hdi rfl (j := 11) rfl rfl (c := false) gg rfl (fun k v _ _ h => h) (fun t ht => rfl) ?_
          exact hcm
        · have gg : f 58 = .bool false := hf 7 _ _ rfl rfl (up_dep hr (by kernel_rfl))
          have e1 : f 62 = .bool false := hf 11 _ _ rfl rfl (up_dep hr (by kernel_rfl))
          refine GJ.yes hj hdo hr rfl _ hdi rfl (j := 7) rfl rfl (c := false) gg rfl (fun K hK => ?_)
          clear gg
          clear hj hf hdo hdi
          rw [e1] at hK ⊢
          clear e1
          go_simp
          exact hK _ _ (fun k v _ _ h => h) (fun t ht => rfl) hcm
        · have e1 : f 58 = .bool false := hf 7 _ _ rfl rfl (up_dep hr (by kernel_rfl))
          have e2 : f 66 = .bool false := hf 15 _ _ rfl rfl (up_dep hr (by kernel_rfl))
          refine GJ.op hj hdo hr rfl _ hdi (fun K hK => ?_)
          clear hj hf hdo hdi
          rw [e1, e2] at hK ⊢
          clear e1 e2
          go_simp
          exact hK _ _ (fun k v _ _ h => h) (fun t ht => rfl) hcm
        · have e1 : f 67 = .bool false := hf 16 _ _ rfl rfl (up_dep hr (by kernel_rfl))
          refine GJ.op hj hdo hr rfl _ hdi (fun K hK => ?_)
          clear hj hf hdo hdi
          rw [e1] at hK ⊢
          clear e1
          go_simp
          exact hK _ _ (fun k v _ _ h => h) (fun t ht => rfl) hcm
      · intro listed a w10 hr hj
        have hu : ∀ k, k < 18 → up listed k := fun k hk => all_up (by kernel_rfl) hj.lsize hr k hk
        obtain ⟨f, hae, hcm, hf⟩ := hj.opened [51, 52, 53, 54, 55, 56, 57, 58, 59, 60, 61, 62, 63, 64, 65, 66, 67, 50] (by kernel_rfl)
        simp only [List.foldl_cons, List.foldl_nil, List.setIfInBounds_toArray, List.set_cons_zero, List.set_cons_succ] at hae
        subst hae
        replace hcm : Below w2.heap.size w2 w10 := hcm
        have E : f 50 = .bool false := hf 17 _ _ rfl rfl (hu 17 (by omega))
        have HCM := Lib.hid hcm
        clear hcm hf hj hr hu
        rw [E]
        clear E
        exact hQ.out _ (f 51) (f 52) (f 53) (f 54) (f 55) (f 56) (f 57) (f 58) (f 59) (f 60) (f 61) (f 62) (f 63) (f 64) (f 65) (f 66) (f 67) HCM.out
    | false =>
      simp only [show (true != false) = true from rfl, Bool.true_or] at hQ
      refine wp_region_gj (J := GJ _ (SKS (S := (fun _ => False)) (fun κ => match κ with | 0 => KS.eq (.func (.func 54) #[] #[.pointer (some ⟨PB, 0, none⟩)]) | 1 => KS.eq (.bool true) | 2 => KS.eq (.slice (some ⟨bd, od, none⟩) 5 cd) | 3 => KS.eq (.pointer (some ⟨C, 2, none⟩)) | 4 => KS.eq (.int .u8 (c.dom : Int)) | 5 => KS.eq (.bool false) | 6 => KS.eq (.bool true) | 7 => KS.eq (.bool true) | 8 => KS.eq undef | 9 => KS.eq undef | 10 => KS.eq undef | 11 => KS.eq undef | 12 => KS.eq undef | 13 => KS.eq undef | 14 => KS.eq undef | 15 => KS.eq undef | 16 => KS.eq (.bool true) | 17 => KS.eq (.bool true) | _ => KS.any)) (fun _ _ w => Below w2.heap.size w2 w) _) (by kernel_rfl) ?_ ?_ (GJ.start (below_dr (Below.refl _ _)))
      · intro listed a w9 i hr hj
        obtain ⟨hi12, hun, _, _, _⟩ := ready_mem hr
        have h12 : i ∈ List.range 18 := List.mem_range.2 hi12
        simp only [List.range, List.range.loop, List.mem_cons, List.not_mem_nil, or_false] at h12
        obtain ⟨f, hae, hcm, hf, hdo, hdi⟩ := hj.open3 [51, 52, 53, 54, 55, 56, 57, 58, 59, 60, 61, 62, 63, 64, 65, 66, 67, 50] (by kernel_rfl) (by kernel_rfl)
        simp only [List.foldl_cons, List.foldl_nil, List.setIfInBounds_toArray, List.set_cons_zero, List.set_cons_succ] at hae
        subst hae
        replace hcm : Below w2.heap.size w2 w9 := hcm
        rcases h12 with rfl | rfl | rfl | rfl | rfl | rfl | rfl | rfl | rfl | rfl | rfl | rfl | rfl | rfl | rfl | rfl | rfl | rfl
        · refine GJ.op hj hdo hr rfl _ hdi (fun K hK => ?_)
          clear hj hf hdo hdi
          go_simp
          exact hK _ _ (fun k v _ _ h => h) (fun t ht => rfl) hcm
        · have e1 : f 51 = .func (.func 54) #[] #[.pointer (some ⟨PB, 0, none⟩)] := hf 0 _ _ rfl rfl (up_dep hr (by kernel_rfl))
          have kc := keep_cell hcm hkp
          have klt := World.block_lt_of_cell? _ _ kc
          simp only at klt
          refine GJ.op hj hdo hr rfl _ hdi (fun K hK => ?_)
          clear hj hf hdo hdi
          rw [e1] at hK ⊢
          clear e1
          go_simp
          refine (has_c _ w9 c.kind 6 PB _ (keep_cell hcm hkp) (SlP.after hpl hcm)).mono ?_
          rw [hb6.out]
          rintro e w10 ⟨rfl, hb10⟩
          exact hK _ _ (fun k v _ _ h => KS.st _ _ _ _ (Fx.of_below hb10) h) (fun t ht => rfl) (hcm.trans (hb10.mono hcm.size))
        · have kc := keep_cell hcm g1
          refine GJ.op hj hdo hr rfl _ hdi (fun K hK => ?_)
          clear hj hf hdo hdi
          go_simp
          exact hK _ _ (fun k v _ _ h => h) (fun t ht => rfl) hcm
        · refine GJ.op hj hdo hr rfl _ hdi (fun K hK => ?_)
          clear hj hf hdo hdi
          go_simp
          exact hK _ _ (fun k v _ _ h => h) (fun t ht => rfl) hcm
        · have e1 : f 54 = .pointer (some ⟨C, 2, none⟩) := hf 3 _ _ rfl rfl (up_dep hr (by kernel_rfl))
          obtain ⟨kc, klt⟩ := kcl hcm hk2
          refine GJ.op hj hdo hr rfl _ hdi (fun K hK => ?_)
          clear hj hf hdo hdi
          rw [e1] at hK ⊢
          clear e1
          go_simp
          exact hK _ _ (fun k v _ _ h => h) (fun t ht => rfl) hcm
        · have e1 : f 53 = .slice (some ⟨bd, od, none⟩) 5 cd := hf 2 _ _ rfl rfl (up_dep hr (by kernel_rfl))
          have e2 : f 55 = .int .u8 (c.dom : Int) := hf 4 _ _ rfl rfl (up_dep hr (by kernel_rfl))
          refine GJ.op hj hdo hr rfl _ hdi (fun K hK => ?_)
          clear hj hf hdo hdi
          rw [e1, e2] at hK ⊢
          clear e1 e2
          go_simp
          refine (containsD_c _ w9 _ c.dom (hdm.out.after hcm)).mono ?_
          rw [hdk.out]
          rintro e w10 ⟨rfl, hb10⟩
          exact hK _ _ (fun k v _ _ h => KS.st _ _ _ _ (Fx.of_below hb10) h) (fun t ht => rfl) (hcm.trans (hb10.mono hcm.size))
        · have e1 : f 52 = .bool true := hf 1 _ _ rfl rfl (up_dep hr (by kernel_rfl))
          have e2 : f 56 = .bool false := hf 5 _ _ rfl rfl (up_dep hr (by kernel_rfl))
          refine GJ.op hj hdo hr rfl _ hdi (fun K hK => ?_)
          clear hj hf hdo hdi
          rw [e1, e2] at hK ⊢
          clear e1 e2
          go_simp
          exact hK _ _ (fun k v _ _ h => h) (fun t ht => rfl) hcm
        · have e1 : f 57 = .bool true := hf 6 _ _ rfl rfl (up_dep hr (by kernel_rfl))
          refine GJ.op hj hdo hr rfl _ hdi (fun K hK => ?_)
          clear hj hf hdo hdi
          rw [e1] at hK ⊢
          clear e1
          go_simp
          exact hK _ _ (fun k v _ _ h => h) (fun t ht => rfl) hcm
        · have gg : f 58 = .bool true := hf 7 _ _ rfl rfl (up_dep hr (by kernel_rfl))
          refine GJ.no hj hdo hr rfl _ hdi rfl (j := 7) rfl rfl (c := true) gg rfl (fun k v _ _ h => h) (fun t ht => rfl) ?_
          exact hcm
        · have gg : f 58 = .bool true := hf 7 _ _ rfl rfl (up_dep hr (by kernel_rfl))
          refine GJ.no hj hdo hr rfl _ hdi rfl (j := 7) rfl rfl (c := true) gg rfl (fun k v _ _ h => h) (fun t ht => rfl) ?_
          exact hcm
        · have gg : f 58 = .bool true := hf 7 _ _ rfl rfl (up_dep hr (by kernel_rfl))
          refine GJ.no hj hdo hr rfl _ hdi rfl (j := 7) rfl rfl (c := true) gg rfl (fun k v _ _ h => h) (fun t ht => rfl) ?_
          exact hcm
        · have gg : f 58 = .bool true := hf 7 _ _ rfl rfl (up_dep hr (by kernel_rfl))
          refine GJ.no hj hdo hr rfl _ hdi rfl (j := 7) rfl rfl (c := true) gg rfl (fun k v _ _ h => h) (fun t ht => rfl) ?_
          exact hcm
        · have gg : f 62 = undef := hf 11 _ _ rfl rfl (up_dep hr (by kernel_rfl))
          refine GJ.nou hj hdo hr rfl _ hdi rfl (j := 11) rfl rfl gg (fun k v _ _ h => h) (fun t ht => rfl) ?_
          exact hcm
        · have gg : f 62 = undef := hf 11 _ _ rfl rfl (up_dep hr (by kernel_rfl))
          refine GJ.nou hj hdo hr rfl _ hdi rfl (j := 11) rfl rfl gg (fun k v _ _ h => h) (fun t ht => rfl) ?_
          exact hcm
        · have gg : f 62 = undef := hf 11 _ _ rfl rfl (up_dep hr (by kernel_rfl))
          refine GJ.nou hj hdo hr rfl _ hdi rfl (j := 11) rfl rfl gg (fun k v _ _ h => h) (fun t ht => rfl) ?_
          exact hcm
        · have gg : f 58 = .bool true := hf 7 _ _ rfl rfl (up_dep hr (by kernel_rfl))
          refine GJ.no hj hdo hr rfl _ hdi rfl (j := 7) rfl rfl (c := true) gg rfl (fun k v _ _ h => h) (fun t ht => rfl) ?_
          exact hcm
        · have e1 : f 58 = .bool true := hf 7 _ _ rfl rfl (up_dep hr (by kernel_rfl))
          refine GJ.op hj hdo hr rfl _ hdi (fun K hK => ?_)
          clear hj hf hdo hdi
          rw [e1] at hK ⊢
          clear e1
          go_simp
          exact hK _ _ (fun k v _ _ h => h) (fun t ht => rfl) hcm
        · have e1 : f 67 = .bool true := hf 16 _ _ rfl rfl (up_dep hr (by kernel_rfl))
          refine GJ.op hj hdo hr rfl _ hdi (fun K hK => ?_)
          clear hj hf hdo hdi
          rw [e1] at hK ⊢
          clear e1
          go_simp
          exact hK _ _ (fun k v _ _ h => h) (fun t ht => rfl) hcm
      · intro listed a w10 hr hj
        have hu : ∀ k, k < 18 → up listed k := fun k hk => all_up (by kernel_rfl) hj.lsize hr k hk
        obtain ⟨f, hae, hcm, hf⟩ := hj.opened [51, 52, 53, 54, 55, 56, 57, 58, 59, 60, 61, 62, 63, 64, 65, 66, 67, 50] (by kernel_rfl)
        simp only [List.foldl_cons, List.foldl_nil, List.setIfInBounds_toArray, List.set_cons_zero, List.set_cons_succ] at hae
        subst hae
        replace hcm : Below w2.heap.size w2 w10 := hcm
        have E : f 50 = .bool true := hf 17 _ _ rfl rfl (hu 17 (by omega))
        have HCM := Lib.hid hcm
        clear hcm hf hj hr hu
        rw [E]
        clear E
        exact hQ.out _ (f 51) (f 52) (f 53) (f 54) (f 55) (f 56) (f 57) (f 58) (f 59) (f 60) (f 61) (f 62) (f 63) (f 64) (f 65) (f 66) (f 67) HCM.out
  | false =>
    cases dk with
    | true =>
      simp only [show (false != true) = true from rfl, Bool.true_or] at hQ
      refine wp_region_gj (J := GJ _ (SKS (S := (fun _ => False)) (fun κ => match κ with | 0 => KS.eq (.func (.func 54) #[] #[.pointer (some ⟨PB, 0, none⟩)]) | 1 => KS.eq (.bool false) | 2 => KS.eq (.slice (some ⟨bd, od, none⟩) 5 cd) | 3 => KS.eq (.pointer (some ⟨C, 2, none⟩)) | 4 => KS.eq (.int .u8 (c.dom : Int)) | 5 => KS.eq (.bool true) | 6 => KS.eq (.bool true) | 7 => KS.eq (.bool true) | 8 => KS.eq undef | 9 => KS.eq undef | 10 => KS.eq undef | 11 => KS.eq undef | 12 => KS.eq undef | 13 => KS.eq undef | 14 => KS.eq undef | 15 => KS.eq undef | 16 => KS.eq (.bool true) | 17 => KS.eq (.bool true) | _ => KS.any)) (fun _ _ w => Below w2.heap.size w2 w) _) (by kernel_rfl) ?_ ?_ (GJ.start (below_dr (Below.refl _ _)))
      · intro listed a w9 i hr hj
        obtain ⟨hi12, hun, _, _, _⟩ := ready_mem hr
        have h12 : i ∈ List.range 18 := List.mem_range.2 hi12
        simp only [List.range, List.range.loop, List.mem_cons, List.not_mem_nil, or_false] at h12
        obtain ⟨f, hae, hcm, hf, hdo, hdi⟩ := hj.open3 [51, 52, 53, 54, 55, 56, 57, 58, 59, 60, 61, 62, 63, 64, 65, 66, 67, 50] (by kernel_rfl) (by kernel_rfl)
        simp only [List.foldl_cons, List.foldl_nil, List.setIfInBounds_toArray, List.set_cons_zero, List.set_cons_succ] at hae
        subst hae
        replace hcm : Below w2.heap.size w2 w9 := hcm
        rcases h12 with rfl | rfl | rfl | rfl | rfl | rfl | rfl | rfl | rfl | rfl | rfl | rfl | rfl | rfl | rfl | rfl | rfl | rfl
        · refine GJ.op hj hdo hr rfl _ hdi (fun K hK => ?_)
          clear hj hf hdo hdi
          go_simp
          exact hK _ _ (fun k v _ _ h => h) (fun t ht => rfl) hcm
        · have e1 : f 51 = .func (.func 54) #[] #[.pointer (some ⟨PB, 0, none⟩)] := hf 0 _ _ rfl rfl (up_dep hr (by kernel_rfl))
          have kc := keep_cell hcm hkp
          have klt := World.block_lt_of_cell? _ _ kc
          simp only at klt
          refine GJ.op hj hdo hr rfl _ hdi (fun K hK => ?_)
          clear hj hf hdo hdi
          rw [e1] at hK ⊢
          clear e1
          go_simp
          refine (has_c _ w9 c.kind 6 PB _ (keep_cell hcm hkp) (SlP.after hpl hcm)).mono ?_
          rw [hb6.out]
          rintro e w10 ⟨rfl, hb10⟩
          exact hK _ _ (fun k v _ _ h => KS.st _ _ _ _ (Fx.of_below hb10) h) (fun t ht => rfl) (hcm.trans (hb10.mono hcm.size))
        · have kc := keep_cell hcm g1
          refine GJ.op hj hdo hr rfl _ hdi (fun K hK => ?_)
          clear hj hf hdo hdi
          go_simp
          exact hK _ _ (fun k v _ _ h => h) (fun t ht => rfl) hcm
        · refine GJ.op hj hdo hr rfl _ hdi (fun K hK => ?_)
          clear hj hf hdo hdi
          go_simp
          exact hK _ _ (fun k v _ _ h => h) (fun t ht => rfl) hcm
        · have e1 : f 54 = .pointer (some ⟨C, 2, none⟩) := hf 3 _ _ rfl rfl (up_dep hr (by kernel_rfl))
          obtain ⟨kc, klt⟩ := kcl hcm hk2
          refine GJ.op hj hdo hr rfl _ hdi (fun K hK => ?_)
          clear hj hf hdo hdi
          rw [e1] at hK ⊢
          clear e1
          go_simp
          exact hK _ _ (fun k v _ _ h => h) (fun t ht => rfl) hcm
        · have e1 : f 53 = .slice (some ⟨bd, od, none⟩) 5 cd := hf 2 _ _ rfl rfl (up_dep hr (by kernel_rfl))
          have e2 : f 55 = .int .u8 (c.dom : Int) := hf 4 _ _ rfl rfl (up_dep hr (by kernel_rfl))
          refine GJ.op hj hdo hr rfl _ hdi (fun K hK => ?_)
          clear hj hf hdo hdi
          rw [e1, e2] at hK ⊢
          clear e1 e2
          go_simp
          refine (containsD_c _ w9 _ c.dom (hdm.out.after hcm)).mono ?_
          rw [hdk.out]
          rintro e w10 ⟨rfl, hb10⟩
          exact hK _ _ (fun k v _ _ h => KS.st _ _ _ _ (Fx.of_below hb10) h) (fun t ht => rfl) (hcm.trans (hb10.mono hcm.size))
        · have e1 : f 52 = .bool false := hf 1 _ _ rfl rfl (up_dep hr (by kernel_rfl))
          have e2 : f 56 = .bool true := hf 5 _ _ rfl rfl (up_dep hr (by kernel_rfl))
          refine GJ.op hj hdo hr rfl _ hdi (fun K hK => ?_)
          clear hj hf hdo hdi
          rw [e1, e2] at hK ⊢
          clear e1 e2
          go_simp
          exact hK _ _ (fun k v _ _ h => h) (fun t ht => rfl) hcm
        · have e1 : f 57 = .bool true := hf 6 _ _ rfl rfl (up_dep hr (by kernel_rfl))
          refine GJ.op hj hdo hr rfl _ hdi (fun K hK => ?_)
          clear hj hf hdo hdi
          rw [e1] at hK ⊢
          clear e1
          go_simp
          exact hK _ _ (fun k v _ _ h => h) (fun t ht => rfl) hcm
        · have gg : f 58 = .bool true := hf 7 _ _ rfl rfl (up_dep hr (by kernel_rfl))
          refine GJ.no hj hdo hr rfl _ hdi rfl (j := 7) rfl rfl (c := true) gg rfl (fun k v _ _ h => h) (fun t ht => rfl) ?_
          exact hcm
        · have gg : f 58 = .bool true := hf 7 _ _ rfl rfl (up_dep hr (by kernel_rfl))
          refine GJ.no hj hdo hr rfl _ hdi rfl (j := 7) rfl rfl (c := true) gg rfl (fun k v _ _ h => h) (fun t ht => rfl) ?_
          exact hcm
        · have gg : f 58 = .bool true := hf 7 _ _ rfl rfl (up_dep hr (by kernel_rfl))
          refine GJ.no hj hdo hr rfl _ hdi rfl (j := 7) rfl rfl (c := true) gg rfl (fun k v _ _ h => h) (fun t ht => rfl) ?_
          exact hcm
        · have gg : f 58 = .bool true := hf 7 _ _ rfl rfl (up_dep hr (by kernel_rfl))
          refine GJ.no hj hdo hr rfl _ hdi rfl (j := 7) rfl rfl (c := true) gg rfl (fun k v _ _ h => h) (fun t ht => rfl) ?_
          exact hcm
        · have gg : f 62 = undef := hf 11 _ _ rfl rfl (up_dep hr (by kernel_rfl))
          refine GJ.nou hj hdo hr rfl _ hdi rfl (j := 11) rfl rfl gg (fun k v _ _ h => h) (fun t ht => rfl) ?_
          exact hcm
        · have gg : f 62 = undef := hf 11 _ _ rfl rfl (up_dep hr (by kernel_rfl))
          refine GJ.nou hj hdo hr rfl _ hdi rfl (j := 11) rfl rfl gg (fun k v _ _ h => h) (fun t ht => rfl) ?_
          exact hcm
        · have gg : f 62 = undef := hf 11 _ _ rfl rfl (up_dep hr (by kernel_rfl))
          refine GJ.nou hj hdo hr rfl _ hdi rfl (j := 11) rfl rfl gg (fun k v _ _ h => h) (fun t ht => rfl) ?_
          exact hcm
        · have gg : f 58 = .bool true := hf 7 _ _ rfl rfl (up_dep hr (by kernel_rfl))
          refine GJ.no hj hdo hr rfl _ hdi rfl (j := 7) rfl rfl (c := true) gg rfl (fun k v _ _ h => h) (fun t ht => rfl) ?_
          exact hcm
        · have e1 : f 58 = .bool true := hf 7 _ _ rfl rfl (up_dep hr (by kernel_rfl))
          refine GJ.op hj hdo hr rfl _ hdi (fun K hK => ?_)
          clear hj hf hdo hdi
          rw [e1] at hK ⊢
          clear e1
          go_simp
          exact hK _ _ (fun k v _ _ h => h) (fun t ht => rfl) hcm
        · have e1 : f 67 = .bool true := hf 16 _ _ rfl rfl (up_dep hr (by kernel_rfl))
          refine GJ.op hj hdo hr rfl _ hdi (fun K hK => ?_)
          clear hj hf hdo hdi
          rw [e1] at hK ⊢
          clear e1
          go_simp
          exact hK _ _ (fun k v _ _ h => h) (fun t ht => rfl) hcm
      · intro listed a w10 hr hj
        have hu : ∀ k, k < 18 → up listed k := fun k hk => all_up (by kernel_rfl) hj.lsize hr k hk
        obtain ⟨f, hae, hcm, hf⟩ := hj.opened [51, 52, 53, 54, 55, 56, 57, 58, 59, 60, 61, 62, 63, 64, 65, 66, 67, 50] (by kernel_rfl)
        simp only [List.foldl_cons, List.foldl_nil, List.setIfInBounds_toArray, List.set_cons_zero, List.set_cons_succ] at hae
        subst hae
        replace hcm : Below w2.heap.size w2 w10 := hcm
        have E : f 50 = .bool true := hf 17 _ _ rfl rfl (hu 17 (by omega))
        have HCM := Lib.hid hcm
        clear hcm hf hj hr hu
        rw [E]
        clear E
        exact hQ.out _ (f 51) (f 52) (f 53) (f 54) (f 55) (f 56) (f 57) (f 58) (f 59) (f 60) (f 61) (f 62) (f 63) (f 64) (f 65) (f 66) (f 67) HCM.out
    | false =>
      by_cases hd0 : c.dom = 0
      · have qd0 : ((c.dom : Int) != 0) = false := by simp; omega
        rw [show decide (c.dom ≠ 0) = false from decide_eq_false (fun h => h hd0)] at hQ
        simp only [bne_self_eq_false, Bool.and_false, Bool.or_false] at hQ
        clear hd0
        refine wp_region_gj (J := GJ _ (SKS (S := (fun _ => False)) (fun κ => match κ with | 0 => KS.eq (.func (.func 54) #[] #[.pointer (some ⟨PB, 0, none⟩)]) | 1 => KS.eq (.bool false) | 2 => KS.eq (.slice (some ⟨bd, od, none⟩) 5 cd) | 3 => KS.eq (.pointer (some ⟨C, 2, none⟩)) | 4 => KS.eq (.int .u8 (c.dom : Int)) | 5 => KS.eq (.bool false) | 6 => KS.eq (.bool false) | 7 => KS.eq (.bool false) | 8 => KS.eq (.func (.func 54) #[] #[.pointer (some ⟨PB, 0, none⟩)]) | 9 => KS.eq (.bool false) | 10 => KS.eq (.bool true) | 11 => KS.eq (.bool true) | 12 => KS.eq (.pointer (some ⟨C, 2, none⟩)) | 13 => KS.eq (.int .u8 (c.dom : Int)) | 14 => KS.eq (.bool false) | 15 => KS.eq (.bool false) | 16 => KS.eq (.bool false) | 17 => KS.eq (.bool false) | _ => KS.any)) (fun _ _ w => Below w2.heap.size w2 w) _) (by kernel_rfl) ?_ ?_ (GJ.start (below_dr (Below.refl _ _)))
        · intro listed a w9 i hr hj
          obtain ⟨hi12, hun, _, _, _⟩ := ready_mem hr
          have h12 : i ∈ List.range 18 := List.mem_range.2 hi12
          simp only [List.range, List.range.loop, List.mem_cons, List.not_mem_nil, or_false] at h12
          obtain ⟨f, hae, hcm, hf, hdo, hdi⟩ := hj.open3 [51, 52, 53, 54, 55, 56, 57, 58, 59, 60, 61, 62, 63, 64, 65, 66, 67, 50] (by kernel_rfl) (by kernel_rfl)
          simp only [List.foldl_cons, List.foldl_nil, List.setIfInBounds_toArray, List.set_cons_zero, List.set_cons_succ] at hae
          subst hae
          replace hcm : Below w2.heap.size w2 w9 := hcm
          rcases h12 with rfl | rfl | rfl | rfl | rfl | rfl | rfl | rfl | rfl | rfl | rfl | rfl | rfl | rfl | rfl | rfl | rfl | rfl
          · refine GJ.op hj hdo hr rfl _ hdi (fun K hK => ?_)
            clear hj hf hdo hdi
            go_simp
            exact hK _ _ (fun k v _ _ h => h) (fun t ht => rfl) hcm
          · have e1 : f 51 = .func (.func 54) #[] #[.pointer (some ⟨PB, 0, none⟩)] := hf 0 _ _ rfl rfl (up_dep hr (by kernel_rfl))
            have kc := keep_cell hcm hkp
            have klt := World.block_lt_of_cell? _ _ kc
            simp only at klt
            refine GJ.op hj hdo hr rfl _ hdi (fun K hK => ?_)
            clear hj hf hdo hdi
            rw [e1] at hK ⊢
            clear e1
            go_simp
            refine (has_c _ w9 c.kind 6 PB _ (keep_cell hcm hkp) (SlP.after hpl hcm)).mono ?_
            rw [hb6.out]
            rintro e w10 ⟨rfl, hb10⟩
            exact hK _ _ (fun k v _ _ h => KS.st _ _ _ _ (Fx.of_below hb10) h) (fun t ht => rfl) (hcm.trans (hb10.mono hcm.size))
          · have kc := keep_cell hcm g1
            refine GJ.op hj hdo hr rfl _ hdi (fun K hK => ?_)
            clear hj hf hdo hdi
            go_simp
            exact hK _ _ (fun k v _ _ h => h) (fun t ht => rfl) hcm
          · refine GJ.op hj hdo hr rfl _ hdi (fun K hK => ?_)
            clear hj hf hdo hdi
            go_simp
            exact hK _ _ (fun k v _ _ h => h) (fun t ht => rfl) hcm
          · have e1 : f 54 = .pointer (some ⟨C, 2, none⟩) := hf 3 _ _ rfl rfl (up_dep hr (by kernel_rfl))
            obtain ⟨kc, klt⟩ := kcl hcm hk2
            refine GJ.op hj hdo hr rfl _ hdi (fun K hK => ?_)
            clear hj hf hdo hdi
            rw [e1] at hK ⊢
            clear e1
            go_simp
            exact hK _ _ (fun k v _ _ h => h) (fun t ht => rfl) hcm
          · have e1 : f 53 = .slice (some ⟨bd, od, none⟩) 5 cd := hf 2 _ _ rfl rfl (up_dep hr (by kernel_rfl))
            have e2 : f 55 = .int .u8 (c.dom : Int) := hf 4 _ _ rfl rfl (up_dep hr (by kernel_rfl))
            refine GJ.op hj hdo hr rfl _ hdi (fun K hK => ?_)
            clear hj hf hdo hdi
            rw [e1, e2] at hK ⊢
            clear e1 e2
            go_simp
            refine (containsD_c _ w9 _ c.dom (hdm.out.after hcm)).mono ?_
            rw [hdk.out]
            rintro e w10 ⟨rfl, hb10⟩
            exact hK _ _ (fun k v _ _ h => KS.st _ _ _ _ (Fx.of_below hb10) h) (fun t ht => rfl) (hcm.trans (hb10.mono hcm.size))
          · have e1 : f 52 = .bool false := hf 1 _ _ rfl rfl (up_dep hr (by kernel_rfl))
            have e2 : f 56 = .bool false := hf 5 _ _ rfl rfl (up_dep hr (by kernel_rfl))
            refine GJ.op hj hdo hr rfl _ hdi (fun K hK => ?_)
            clear hj hf hdo hdi
            rw [e1, e2] at hK ⊢
            clear e1 e2
            go_simp
            exact hK _ _ (fun k v _ _ h => h) (fun t ht => rfl) hcm
          · have e1 : f 57 = .bool false := hf 6 _ _ rfl rfl (up_dep hr (by kernel_rfl))
            refine GJ.op hj hdo hr rfl _ hdi (fun K hK => ?_)
            clear hj hf hdo hdi
            rw [e1] at hK ⊢
            clear e1
            go_simp
            exact hK _ _ (fun k v _ _ h => h) (fun t ht => rfl) hcm
          · have gg : f 58 = .bool false := hf 7 _ _ rfl rfl (up_dep hr (by kernel_rfl))
            refine GJ.yes hj hdo hr rfl _ hdi rfl (j := 7) rfl rfl (c := false) gg rfl (fun K hK => ?_)
            clear gg
            clear hj hf hdo hdi
            go_simp
            exact hK _ _ (fun k v _ _ h => h) (fun t ht => rfl) hcm
          · have gg : f 58 = .bool false := hf 7 _ _ rfl rfl (up_dep hr (by kernel_rfl))
            have e1 : f 59 = .func (.func 54) #[] #[.pointer (some ⟨PB, 0, none⟩)] := hf 8 _ _ rfl rfl (up_dep hr (by kernel_rfl))
            have kc := keep_cell hcm hkp
            have klt := World.block_lt_of_cell? _ _ kc
            simp only at klt
            refine GJ.yes hj hdo hr rfl _ hdi rfl (j := 7) rfl rfl (c := false) gg rfl (fun K hK => ?_)
            clear gg
            clear hj hf hdo hdi
            rw [e1] at hK ⊢
            clear e1
            go_simp
            refine (has_c _ w9 c.kind 6 PB _ (keep_cell hcm hkp) (SlP.after hpl hcm)).mono ?_
            rw [hb6.out]
            rintro e w10 ⟨rfl, hb10⟩
            exact hK _ _ (fun k v _ _ h => KS.st _ _ _ _ (Fx.of_below hb10) h) (fun t ht => rfl) (hcm.trans (hb10.mono hcm.size))
          · have gg : f 58 = .bool false := hf 7 _ _ rfl rfl (up_dep hr (by kernel_rfl))
            have e1 : f 60 = .bool false := hf 9 _ _ rfl rfl (up_dep hr (by kernel_rfl))
            refine GJ.yes hj hdo hr rfl _ hdi rfl (j := 7) rfl rfl (c := false) gg rfl (fun K hK => ?_)
            clear gg
            clear hj hf hdo hdi
            rw [e1] at hK ⊢
            clear e1
            go_simp
            exact hK _ _ (fun k v _ _ h => h) (fun t ht => rfl) hcm
          · have gg : f 58 = .bool false := hf 7 _ _ rfl rfl (up_dep hr (by kernel_rfl))
            have e1 : f 61 = .bool true := hf 10 _ _ rfl rfl (up_dep hr (by kernel_rfl))
            refine GJ.yes hj hdo hr rfl _ hdi rfl (j := 7) rfl rfl (c := false) gg rfl (fun K hK => ?_)
            clear gg
            clear hj hf hdo hdi
            rw [e1] at hK ⊢
            clear e1
            go_simp
            exact hK _ _ (fun k v _ _ h => h) (fun t ht => rfl) hcm
          · have gg : f 62 = .bool true := hf 11 _ _ rfl rfl (up_dep hr (by kernel_rfl))
            refine GJ.yes hj hdo hr rfl _ hdi rfl (j := 11) rfl rfl (c := true) gg rfl (fun K hK => ?_)
            clear gg
            clear hj hf hdo hdi
            go_simp
            exact hK _ _ (fun k v _ _ h => h) (fun t ht => rfl) hcm
          · have gg : f 62 = .bool true := hf 11 _ _ rfl rfl (up_dep hr (by kernel_rfl))
            have e1 : f 63 = .pointer (some ⟨C, 2, none⟩) := hf 12 _ _ rfl rfl (up_dep hr (by kernel_rfl))
            obtain ⟨kc, klt⟩ := kcl hcm hk2
            refine GJ.yes hj hdo hr rfl _ hdi rfl (j := 11) rfl rfl (c := true) gg rfl (fun K hK => ?_)
            clear gg
            clear hj hf hdo hdi
            rw [e1] at hK ⊢
            clear e1
            go_simp
            exact hK _ _ (fun k v _ _ h => h) (fun t ht => rfl) hcm
          · have gg : f 62 = .bool true := hf 11 _ _ rfl rfl (up_dep hr (by kernel_rfl))
            have e1 : f 64 = .int .u8 (c.dom : Int) := hf 13 _ _ rfl rfl (up_dep hr (by kernel_rfl))
            refine GJ.yes hj hdo hr rfl _ hdi rfl (j := 11) rfl rfl (c := true) gg rfl (fun K hK => ?_)
            clear gg
            clear hj hf hdo hdi
            rw [e1] at hK ⊢
            clear e1
            go_simp
            exact hK _ _ (fun k v _ _ h => h) (fun t ht => rfl) hcm
          · have gg : f 58 = .bool false := hf 7 _ _ rfl rfl (up_dep hr (by kernel_rfl))
            have e1 : f 62 = .bool true := hf 11 _ _ rfl rfl (up_dep hr (by kernel_rfl))
            have e2 : f 65 = .bool false := hf 14 _ _ rfl rfl (up_dep hr (by kernel_rfl))
            refine GJ.yes hj hdo hr rfl _ hdi rfl (j := 7) rfl rfl (c := false) gg rfl (fun K hK => ?_)
            clear gg
            clear hj hf hdo hdi
            rw [e1, e2] at hK ⊢
            clear e1 e2
            go_simp
            exact hK _ _ (fun k v _ _ h => h) (fun t ht => rfl) hcm
          · have e1 : f 58 = .bool false := hf 7 _ _ rfl rfl (up_dep hr (by kernel_rfl))
            have e2 : f 66 = .bool false := hf 15 _ _ rfl rfl (up_dep hr (by kernel_rfl))
            refine GJ.op hj hdo hr rfl _ hdi (fun K hK => ?_)
            clear hj hf hdo hdi
            rw [e1, e2] at hK ⊢
            clear e1 e2
            go_simp
            exact hK _ _ (fun k v _ _ h => h) (fun t ht => rfl) hcm
          · have e1 : f 67 = .bool false := hf 16 _ _ rfl rfl (up_dep hr (by kernel_rfl))
            refine GJ.op hj hdo hr rfl _ hdi (fun K hK => ?_)
            clear hj hf hdo hdi
            rw [e1] at hK ⊢
            clear e1
            go_simp
            exact hK _ _ (fun k v _ _ h => h) (fun t ht => rfl) hcm
        · intro listed a w10 hr hj
          have hu : ∀ k, k < 18 → up listed k := fun k hk => all_up (by kernel_rfl) hj.lsize hr k hk
          obtain ⟨f, hae, hcm, hf⟩ := hj.opened [51, 52, 53, 54, 55, 56, 57, 58, 59, 60, 61, 62, 63, 64, 65, 66, 67, 50] (by kernel_rfl)
          simp only [List.foldl_cons, List.foldl_nil, List.setIfInBounds_toArray, List.set_cons_zero, List.set_cons_succ] at hae
          subst hae
          replace hcm : Below w2.heap.size w2 w10 := hcm
          have E : f 50 = .bool false := hf 17 _ _ rfl rfl (hu 17 (by omega))
          have HCM := Lib.hid hcm
          clear hcm hf hj hr hu
          rw [E]
          clear E
          exact hQ.out _ (f 51) (f 52) (f 53) (f 54) (f 55) (f 56) (f 57) (f 58) (f 59) (f 60) (f 61) (f 62) (f 63) (f 64) (f 65) (f 66) (f 67) HCM.out
      · have qd0 : ((c.dom : Int) != 0) = true := by simp; omega
        rw [show decide (c.dom ≠ 0) = true from decide_eq_true hd0] at hQ
        simp only [bne_self_eq_false, Bool.not_false, Bool.and_true, Bool.or_true] at hQ
        clear hd0
        refine wp_region_gj (J := GJ _ (SKS (S := (fun _ => False)) (fun κ => match κ with | 0 => KS.eq (.func (.func 54) #[] #[.pointer (some ⟨PB, 0, none⟩)]) | 1 => KS.eq (.bool false) | 2 => KS.eq (.slice (some ⟨bd, od, none⟩) 5 cd) | 3 => KS.eq (.pointer (some ⟨C, 2, none⟩)) | 4 => KS.eq (.int .u8 (c.dom : Int)) | 5 => KS.eq (.bool false) | 6 => KS.eq (.bool false) | 7 => KS.eq (.bool false) | 8 => KS.eq (.func (.func 54) #[] #[.pointer (some ⟨PB, 0, none⟩)]) | 9 => KS.eq (.bool false) | 10 => KS.eq (.bool true) | 11 => KS.eq (.bool true) | 12 => KS.eq (.pointer (some ⟨C, 2, none⟩)) | 13 => KS.eq (.int .u8 (c.dom : Int)) | 14 => KS.eq (.bool true) | 15 => KS.eq (.bool true) | 16 => KS.eq (.bool true) | 17 => KS.eq (.bool true) | _ => KS.any)) (fun _ _ w => Below w2.heap.size w2 w) _) (by kernel_rfl) ?_ ?_ (GJ.start (below_dr (Below.refl _ _)))
        · intro listed a w9 i hr hj
          obtain ⟨hi12, hun, _, _, _⟩ := ready_mem hr
          have h12 : i ∈ List.range 18 := List.mem_range.2 hi12
          simp only [List.range, List.range.loop, List.mem_cons, List.not_mem_nil, or_false] at h12
          obtain ⟨f, hae, hcm, hf, hdo, hdi⟩ := hj.open3 [51, 52, 53, 54, 55, 56, 57, 58, 59, 60, 61, 62, 63, 64, 65, 66, 67, 50] (by kernel_rfl) (by kernel_rfl)
          simp only [List.foldl_cons, List.foldl_nil, List.setIfInBounds_toArray, List.set_cons_zero, List.set_cons_succ] at hae
          subst hae
          replace hcm : Below w2.heap.size w2 w9 := hcm
          rcases h12 with rfl | rfl | rfl | rfl | rfl | rfl | rfl | rfl | rfl | rfl | rfl | rfl | rfl | rfl | rfl | rfl | rfl | rfl
          · refine GJ.op hj hdo hr rfl _ hdi (fun K hK => ?_)
            clear hj hf hdo hdi
            go_simp
            exact hK _ _ (fun k v _ _ h => h) (fun t ht => rfl) hcm
          · have e1 : f 51 = .func (.func 54) #[] #[.pointer (some ⟨PB, 0, none⟩)] := hf 0 _ _ rfl rfl (up_dep hr (by kernel_rfl))
            have kc := keep_cell hcm hkp
            have klt := World.block_lt_of_cell? _ _ kc
            simp only at klt
            refine GJ.op hj hdo hr rfl _ hdi (fun K hK => ?_)
            clear hj hf hdo hdi
            rw [e1] at hK ⊢
            clear e1
            go_simp
            refine (has_c _ w9 c.kind 6 PB _ (keep_cell hcm hkp) (SlP.after hpl hcm)).mono ?_
            rw [hb6.out]
            rintro e w10 ⟨rfl, hb10⟩
            exact hK _ _ (fun k v _ _ h => KS.st _ _ _ _ (Fx.of_below hb10) h) (fun t ht => rfl) (hcm.trans (hb10.mono hcm.size))
          · have kc := keep_cell hcm g1
            refine GJ.op hj hdo hr rfl _ hdi (fun K hK => ?_)
            clear hj hf hdo hdi
            go_simp
            exact hK _ _ (fun k v _ _ h => h) (fun t ht => rfl) hcm
          · refine GJ.op hj hdo hr rfl _ hdi (fun K hK => ?_)
            clear hj hf hdo hdi
            go_simp
            exact hK _ _ (fun k v _ _ h => h) (fun t ht => rfl) hcm
          · have e1 : f 54 = .pointer (some ⟨C, 2, none⟩) := hf 3 _ _ rfl rfl (up_dep hr (by kernel_rfl))
            obtain ⟨kc, klt⟩ := kcl hcm hk2
            refine GJ.op hj hdo hr rfl _ hdi (fun K hK => ?_)
            clear hj hf hdo hdi
            rw [e1] at hK ⊢
            clear e1
            go_simp
            exact hK _ _ (fun k v _ _ h => h) (fun t ht => rfl) hcm
          · have e1 : f 53 = .slice (some ⟨bd, od, none⟩) 5 cd := hf 2 _ _ rfl rfl (up_dep hr (by kernel_rfl))
            have e2 : f 55 = .int .u8 (c.dom : Int) := hf 4 _ _ rfl rfl (up_dep hr (by kernel_rfl))
            refine GJ.op hj hdo hr rfl _ hdi (fun K hK => ?_)
            clear hj hf hdo hdi
            rw [e1, e2] at hK ⊢
            clear e1 e2
            go_simp
            refine (containsD_c _ w9 _ c.dom (hdm.out.after hcm)).mono ?_
            rw [hdk.out]
            rintro e w10 ⟨rfl, hb10⟩
            exact hK _ _ (fun k v _ _ h => KS.st _ _ _ _ (Fx.of_below hb10) h) (fun t ht => rfl) (hcm.trans (hb10.mono hcm.size))
          · have e1 : f 52 = .bool false := hf 1 _ _ rfl rfl (up_dep hr (by kernel_rfl))
            have e2 : f 56 = .bool false := hf 5 _ _ rfl rfl (up_dep hr (by kernel_rfl))
            refine GJ.op hj hdo hr rfl _ hdi (fun K hK => ?_)
            clear hj hf hdo hdi
            rw [e1, e2] at hK ⊢
            clear e1 e2
            go_simp
            exact hK _ _ (fun k v _ _ h => h) (fun t ht => rfl) hcm
          · have e1 : f 57 = .bool false := hf 6 _ _ rfl rfl (up_dep hr (by kernel_rfl))
            refine GJ.op hj hdo hr rfl _ hdi (fun K hK => ?_)
            clear hj hf hdo hdi
            rw [e1] at hK ⊢
            clear e1
            go_simp
            exact hK _ _ (fun k v _ _ h => h) (fun t ht => rfl) hcm
          · have gg : f 58 = .bool false := hf 7 _ _ rfl rfl (up_dep hr (by kernel_rfl))
            refine GJ.yes hj hdo hr rfl _ hdi rfl (j := 7) rfl rfl (c := false) gg rfl (fun K hK => ?_)
            clear gg
            clear hj hf hdo hdi
            go_simp
            exact hK _ _ (fun k v _ _ h => h) (fun t ht => rfl) hcm
          · have gg : f 58 = .bool false := hf 7 _ _ rfl rfl (up_dep hr (by kernel_rfl))
            have e1 : f 59 = .func (.func 54) #[] #[.pointer (some ⟨PB, 0, none⟩)] := hf 8 _ _ rfl rfl (up_dep hr (by kernel_rfl))
            have kc := keep_cell hcm hkp
            have klt := World.block_lt_of_cell? _ _ kc
            simp only at klt
            refine GJ.yes hj hdo hr rfl _ hdi rfl (j := 7) rfl rfl (c := false) gg rfl (fun K hK => ?_)
            clear gg
            clear hj hf hdo hdi
            rw [e1] at hK ⊢
            clear e1
            go_simp
            refine (has_c _ w9 c.kind 6 PB _ (keep_cell hcm hkp) (SlP.after hpl hcm)).mono ?_
            rw [hb6.out]
            rintro e w10 ⟨rfl, hb10⟩
            exact hK _ _ (fun k v _ _ h => KS.st _ _ _ _ (Fx.of_below hb10) h) (fun t ht => rfl) (hcm.trans (hb10.mono hcm.size))
          · have gg : f 58 = .bool false := hf 7 _ _ rfl rfl (up_dep hr (by kernel_rfl))
            have e1 : f 60 = .bool false := hf 9 _ _ rfl rfl (up_dep hr (by kernel_rfl))
            refine GJ.yes hj hdo hr rfl _ hdi rfl (j := 7) rfl rfl (c := false) gg rfl (fun K hK => ?_)
            clear gg
            clear hj hf hdo hdi
            rw [e1] at hK ⊢
            clear e1
            go_simp
            exact hK _ _ (fun k v _ _ h => h) (fun t ht => rfl) hcm
          · have gg : f 58 = .bool false := hf 7 _ _ rfl rfl (up_dep hr (by kernel_rfl))
            have e1 : f 61 = .bool true := hf 10 _ _ rfl rfl (up_dep hr (by kernel_rfl))
            refine GJ.yes hj hdo hr rfl _ hdi rfl (j := 7) rfl rfl (c := false) gg rfl (fun K hK => ?_)
            clear gg
            clear hj hf hdo hdi
            rw [e1] at hK ⊢
            clear e1
            go_simp
            exact hK _ _ (fun k v _ _ h => h) (fun t ht => rfl) hcm
          · have gg : f 62 = .bool true := hf 11 _ _ rfl rfl (up_dep hr (by kernel_rfl))
            refine GJ.yes hj hdo hr rfl _ hdi rfl (j := 11) rfl rfl (c := true) gg rfl (fun K hK => ?_)
            clear gg
            clear hj hf hdo hdi
            go_simp
            exact hK _ _ (fun k v _ _ h => h) (fun t ht => rfl) hcm
          · have gg : f 62 = .bool true := hf 11 _ _ rfl rfl (up_dep hr (by kernel_rfl))
            have e1 : f 63 = .pointer (some ⟨C, 2, none⟩) := hf 12 _ _ rfl rfl (up_dep hr (by kernel_rfl))
            obtain ⟨kc, klt⟩ := kcl hcm hk2
            refine GJ.yes hj hdo hr rfl _ hdi rfl (j := 11) rfl rfl (c := true) gg rfl (fun K hK => ?_)
            clear gg
            clear hj hf hdo hdi
            rw [e1] at hK ⊢
            clear e1
            go_simp
            exact hK _ _ (fun k v _ _ h => h) (fun t ht => rfl) hcm
          · have gg : f 62 = .bool true := hf 11 _ _ rfl rfl (up_dep hr (by kernel_rfl))
            have e1 : f 64 = .int .u8 (c.dom : Int) := hf 13 _ _ rfl rfl (up_dep hr (by kernel_rfl))
            refine GJ.yes hj hdo hr rfl _ hdi rfl (j := 11) rfl rfl (c := true) gg rfl (fun K hK => ?_)
            clear gg
            clear hj hf hdo hdi
            rw [e1] at hK ⊢
            clear e1
            go_simp
            exact hK _ _ (fun k v _ _ h => h) (fun t ht => rfl) hcm
          · have gg : f 58 = .bool false := hf 7 _ _ rfl rfl (up_dep hr (by kernel_rfl))
            have e1 : f 62 = .bool true := hf 11 _ _ rfl rfl (up_dep hr (by kernel_rfl))
            have e2 : f 65 = .bool true := hf 14 _ _ rfl rfl (up_dep hr (by kernel_rfl))
            refine GJ.yes hj hdo hr rfl _ hdi rfl (j := 7) rfl rfl (c := false) gg rfl (fun K hK => ?_)
            clear gg
            clear hj hf hdo hdi
            rw [e1, e2] at hK ⊢
            clear e1 e2
            go_simp
            exact hK _ _ (fun k v _ _ h => h) (fun t ht => rfl) hcm
          · have e1 : f 58 = .bool false := hf 7 _ _ rfl rfl (up_dep hr (by kernel_rfl))
            have e2 : f 66 = .bool true := hf 15 _ _ rfl rfl (up_dep hr (by kernel_rfl))
            refine GJ.op hj hdo hr rfl _ hdi (fun K hK => ?_)
            clear hj hf hdo hdi
            rw [e1, e2] at hK ⊢
            clear e1 e2
            go_simp
            exact hK _ _ (fun k v _ _ h => h) (fun t ht => rfl) hcm
          · have e1 : f 67 = .bool true := hf 16 _ _ rfl rfl (up_dep hr (by kernel_rfl))
            refine GJ.op hj hdo hr rfl _ hdi (fun K hK => ?_)
            clear hj hf hdo hdi
            rw [e1] at hK ⊢
            clear e1
            go_simp
            exact hK _ _ (fun k v _ _ h => h) (fun t ht => rfl) hcm
        · intro listed a w10 hr hj
          have hu : ∀ k, k < 18 → up listed k := fun k hk => all_up (by kernel_rfl) hj.lsize hr k hk
          obtain ⟨f, hae, hcm, hf⟩ := hj.opened [51, 52, 53, 54, 55, 56, 57, 58, 59, 60, 61, 62, 63, 64, 65, 66, 67, 50] (by kernel_rfl)
          simp only [List.foldl_cons, List.foldl_nil, List.setIfInBounds_toArray, List.set_cons_zero, List.set_cons_succ] at hae
          subst hae
          replace hcm : Below w2.heap.size w2 w10 := hcm
          have E : f 50 = .bool true := hf 17 _ _ rfl rfl (hu 17 (by omega))
          have HCM := Lib.hid hcm
          clear hcm hf hj hr hu
          rw [E]
          clear E
          exact hQ.out _ (f 51) (f 52) (f 53) (f 54) (f 55) (f 56) (f 57) (f 58) (f 59) (f 60) (f 61) (f 62) (f 63) (f 64) (f 65) (f 66) (f 67) HCM.out
end Go.Proofs.YtganlldidjbpiaaGreatDoor
