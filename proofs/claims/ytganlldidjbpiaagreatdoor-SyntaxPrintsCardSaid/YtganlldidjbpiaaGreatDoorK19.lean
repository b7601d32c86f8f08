/- Walks of package syntax: every.
   Walks of package syntax: formed, the numbers. -/
import Derived.Test.YtganlldidjbpiaaGreatDoorK17
set_option linter.unusedVariables false
namespace Go.Proofs.YtganlldidjbpiaaGreatDoor
open Go.RowKit Go.Shelf

theorem all_any {α : Type} (l : List α) (P : α → Bool) : (!(l.any fun x => !(P x))) = l.all P := by
  rw [List.all_eq_not_any_not]
set_option maxRecDepth 100000 in
set_option maxHeartbeats 4000000 in
theorem every1S_c (w : World) (x : List UInt8) (g b : Nat) (P : Bool) (h : w.cell? ⟨b, 0, none⟩ = some (.func (.func g) #[] #[])) (hen : ∀ args w, (callFunc g args).run Tryz.prog w = .ok (.enter g args) w) (hP : ∀ W, Below w.heap.size w W → Calls Tryz.prog g #[.string (bs x)] W (RetB W P)) :
    Calls Tryz.prog 92 #[.string (bs x), .pointer (some ⟨b, 0, none⟩)] w (RetB w (!P)) := by
  have hlt : b < w.heap.size := World.block_lt_of_cell? _ _ h
  have HP := Lib.hid (hP w (Below.refl _ w))
  clear hP
  go_enter Tryz.func92, Tryz.ntmps92
  go_wp2_with fail
  refine HP.out.mono ?_
  rintro e w1 ⟨rfl, hb1⟩
  have HB1 := Lib.hid hb1
  clear hb1 h
  go_wp2_with fail
  go_ret
  exact ⟨rfl, HB1.out⟩
set_option maxRecDepth 100000 in
set_option maxHeartbeats 4000000 in
theorem everyS_c (D : Nat → Prop) (w : World) (v : Value) (l : List (List UInt8)) (g : Nat) (P : List UInt8 → Bool) (h : SlN D w v l) (hen : ∀ args w, (callFunc g args).run Tryz.prog w = .ok (.enter g args) w)
    (hP : ∀ x ∈ l, ∀ W, Below w.heap.size w W → Calls Tryz.prog g #[.string (bs x)] W (RetB W (P x))) :
    Calls Tryz.prog 59 #[v, .func (.func g) #[] #[]] w (RetB w (l.all P)) := by
  have hmf := run_mkf
  obtain ⟨W0, hW⟩ : ∃ W0, W0 = w.alloc (.cells #[.func (.func g) #[] #[]] 28) := ⟨_, rfl⟩
  have hb0 : Below w.heap.size w W0 := hW ▸ held_alloc (Below.refl _ w)
  have bx : Box W0 w.heap.size #[.func (.func g) #[] #[]] 28 := hW ▸ Box.new w _ _
  have HC := Lib.hid (containsFS_c D W0 v l (fun x => !(P x)) 92 #[.pointer (some ⟨w.heap.size, 0, none⟩)] (h.fx (S := fun _ => False) (Fx.of_below hb0) (fun _ _ _ e => e)) (enters_of Tryz.func92 (by kernel_rfl) rfl)
    (fun i hi W hW => every1S_c W _ g _ _ (keep_cell hW (bx.cell 0)) hen (fun W' hW' => hP _ (by rw [List.getD_eq_getElem?_getD, List.getElem?_eq_getElem hi]; exact List.getElem_mem hi) W' ((hb0.trans (hW.mono hb0.size)).trans (hW'.mono (Nat.le_trans hb0.size hW.size))))))
  have HB := Lib.hid hb0
  obtain ⟨B, hB⟩ : ∃ B, (l.any fun x => !(P x)) = B := ⟨_, rfl⟩
  rw [hB] at HC
  have HE : Hid ((!B) = l.all P) := by show _ = _; rw [← hB]; exact all_any l P
  clear bx h hP hen hb0 hB
  go_enter Tryz.func59, Tryz.ntmps59
  go_upto_region 1 with fail
  rw [← hW]
  clear hW
  go_wp2_with fail
  refine HC.out.mono ?_
  rintro e w1 ⟨rfl, hb1⟩
  have HB1 := Lib.hid (HB.out.trans (hb1.mono HB.out.size))
  clear hb1
  go_wp2_with fail
  go_ret
  exact ⟨ret_bool HE.out, HB1.out⟩
set_option maxRecDepth 100000 in
set_option maxHeartbeats 4000000 in
theorem every1C_c (D : Nat → Prop) (w : World) (c : Cl) (vn vi : Value) (g b : Nat) (P : Bool) (hc : HasC D w vn vi c) (h : w.cell? ⟨b, 0, none⟩ = some (.func (.func g) #[] #[])) (hen : ∀ args w, (callFunc g args).run Tryz.prog w = .ok (.enter g args) w) (hP : ∀ W, Below w.heap.size w W → HasC D W vn vi c → Calls Tryz.prog g #[.agg (clV c vn vi).toArray] W (RetB W P)) :
    Calls Tryz.prog 53 #[.agg (clV c vn vi).toArray, .pointer (some ⟨b, 0, none⟩)] w (RetB w (!P)) := by
  have hlt : b < w.heap.size := World.block_lt_of_cell? _ _ h
  obtain ⟨qn, cn, rfl, _, _, _⟩ := (hasC_iff.1 hc).2.1.2.shape
  obtain ⟨qi, ci, rfl, _, _, _⟩ := (hasC_iff.1 hc).2.2.shape
  obtain ⟨W0, hW⟩ : ∃ W0, W0 = w.alloc (.cells (clV c (.slice qn c.names.length cn) (.slice qi c.items.length ci)).toArray 43) := ⟨_, rfl⟩
  have hb0 : Below w.heap.size w W0 := hW ▸ held_alloc (Below.refl _ w)
  have bx : Box W0 w.heap.size (clV c (.slice qn c.names.length cn) (.slice qi c.items.length ci)).toArray 43 := hW ▸ Box.new w _ _
  unfold clV at hW bx hP ⊢
  obtain ⟨k0, k1, k2, k3, k4, k5, k6, k7⟩ := bx.cells8
  have hcf := keep_cell hb0 h
  have l0 := bx.lt
  have l1 := World.block_lt_of_cell? _ _ hcf
  simp only at l1
  have HP := Lib.hid (hP W0 hb0 (HasC.fx (S := fun _ => False) (Fx.of_below hb0) (fun _ _ _ e => e) c hc))
  have HB := Lib.hid hb0
  clear bx h hP hb0 hc
  go_enter Tryz.func53, Tryz.ntmps53
  go_upto_region 1 with fail
  rw [← hW]
  clear hW
  go_wp2_with fail
  refine HP.out.mono ?_
  rintro e w1 ⟨rfl, hb1⟩
  have HB1 := Lib.hid (HB.out.trans (hb1.mono HB.out.size))
  clear hb1 k0 k1 k2 k3 k4 k5 k6 k7 hcf
  go_wp2_with fail
  go_ret
  exact ⟨rfl, HB1.out⟩
set_option maxRecDepth 100000 in
set_option maxHeartbeats 4000000 in
theorem everyC_c (D : Nat → Prop) (w : World) (v : Value) (l : List Cl) (g : Nat) (P : Cl → Bool) (h : SlC D w v l) (hen : ∀ args w, (callFunc g args).run Tryz.prog w = .ok (.enter g args) w)
    (hP : ∀ x ∈ l, ∀ W, Below w.heap.size w W → ∀ vn vi, HasC D W vn vi x → Calls Tryz.prog g #[.agg (clV x vn vi).toArray] W (RetB W (P x))) :
    Calls Tryz.prog 28 #[v, .func (.func g) #[] #[]] w (RetB w (l.all P)) := by
  have hmf := run_mkf
  obtain ⟨W0, hW⟩ : ∃ W0, W0 = w.alloc (.cells #[.func (.func g) #[] #[]] 61) := ⟨_, rfl⟩
  have hb0 : Below w.heap.size w W0 := hW ▸ held_alloc (Below.refl _ w)
  have bx : Box W0 w.heap.size #[.func (.func g) #[] #[]] 61 := hW ▸ Box.new w _ _
  have HC := Lib.hid (containsFC_c D W0 v l (fun x => !(P x)) 53 #[.pointer (some ⟨w.heap.size, 0, none⟩)] (h.after hb0) (enters_of Tryz.func53 (by kernel_rfl) rfl)
    (fun i hi W hW vn vi hc => every1C_c D W _ vn vi g _ _ hc (keep_cell hW (bx.cell 0)) hen (fun W' hW' hc' => hP _ (by rw [List.getD_eq_getElem?_getD, List.getElem?_eq_getElem hi]; exact List.getElem_mem hi) W' ((hb0.trans (hW.mono hb0.size)).trans (hW'.mono (Nat.le_trans hb0.size hW.size))) vn vi hc')))
  have HB := Lib.hid hb0
  obtain ⟨B, hB⟩ : ∃ B, (l.any fun x => !(P x)) = B := ⟨_, rfl⟩
  rw [hB] at HC
  have HE : Hid ((!B) = l.all P) := by show _ = _; rw [← hB]; exact all_any l P
  clear bx h hP hen hb0 hB
  go_enter Tryz.func28, Tryz.ntmps28
  go_upto_region 1 with fail
  rw [← hW]
  clear hW
  go_wp2_with fail
  refine HC.out.mono ?_
  rintro e w1 ⟨rfl, hb1⟩
  have HB1 := Lib.hid (HB.out.trans (hb1.mono HB.out.size))
  clear hb1
  go_wp2_with fail
  go_ret
  exact ⟨ret_bool HE.out, HB1.out⟩
end Go.Proofs.YtganlldidjbpiaaGreatDoor

namespace Go.Proofs.YtganlldidjbpiaaGreatDoor
open Go.RowKit Go.Shelf

/-- The operations of region n. -/
def regOf (n : Nat) : Code → Option (Array Oper)
  | .region id ops _ => if id = n then some ops else none
  | .seq a b => match regOf n a with
    | some x => some x
    | none => regOf n b
  | .cond _ a b => match regOf n a with
    | some x => some x
    | none => regOf n b
  | .block _ a => regOf n a
  | .loop a => regOf n a
  | .scope a => regOf n a
  | _ => none
theorem GJ.open3 {ops : Array Oper} {S : Array Bool → Nat → Value → World → Prop} {C : Array Bool → (Nat → Value) → World → Prop} {a0 a : Act} {listed : Array Bool} {w : World} (h : GJ ops S C a0 listed a w) (D : List Nat) (hd : dstOnce ops = true) (hD : dstIn ops D a0.tmps.size = true) :
    ∃ f : Nat → Value, a = ⟨D.foldl (fun y d => y.setIfInBounds d (f d)) a0.tmps, a0.defers⟩ ∧ C listed f w ∧ (∀ (k : Nat) (o : Oper) (t : Nat), ops[k]? = some o → o.dst = some t → up listed k → S listed k (f t) w) ∧ dstOnce ops = true ∧ dstIn ops D a0.tmps.size = true := by
  obtain ⟨f, h1, h2, h3⟩ := h.opened D hD
  exact ⟨f, h1, h2, h3, hd, hD⟩
theorem kcl {w W : World} {b o : Nat} {v : Value} (hb : Below w.heap.size w W) (h : w.cell? ⟨b, o, none⟩ = some v) : W.cell? ⟨b, o, none⟩ = some v ∧ b < W.heap.size := ⟨keep_cell hb h, World.block_lt_of_cell? _ _ (keep_cell hb h)⟩
set_option maxRecDepth 100000 in
set_option maxHeartbeats 8000000 in
theorem formed_r5 (ops : Array Oper) (hops : (Tryz.f30.body.bind (regOf 5)) = some ops) {N C PB cn cp : Nat} {qn qp : Option Addr} {D : Nat → Prop} {c : Cl} {w2 : World} {Q : Exit → Act → World → Prop} {x0 x1 x3 x4 x5 x6 x7 x9 x10 x11 x12 x13 x14 x15 x16 x17 x18 x19 x20 x21 x22 x23 x24 x25 x26 x27 x28 x29 x30 x31 x32 x33 x34 x35 x36 x37 x38 x39 x40 x41 x42 x43 x44 x45 x46 x47 x48 x49 x50 x51 x52 x53 x54 x55 x56 x57 x58 x59 x60 x61 x62 x63 x64 x65 x66 x67 x68 x69 x70 x71 x72 x73 x74 x75 x76 x77 x78 x79 x80 x81 x82 x83 x84 x85 x86 x87 x88 x89 x90 x91 x92 x93 x94 x95 x96 x97 x98 x99 x100 x101 x102 x103 x104 x105 x106 x107 x108 x109 x110 x111 x112 x113 x114 x115 x116 x117 x118 x119 x120 : Value} (hk0 : w2.cell? ⟨C, 0, none⟩ = some (.int .u8 (c.kind : Int))) (hk1 : w2.cell? ⟨C, 1, none⟩ = some (.slice qn c.names.length cn)) (hk2 : w2.cell? ⟨C, 2, none⟩ = some (.int .u8 (c.dom : Int))) (hk3 : w2.cell? ⟨C, 3, none⟩ = some (.int .i64 c.idx)) (hk4 : w2.cell? ⟨C, 4, none⟩ = some (.int .i64 c.a)) (hk5 : w2.cell? ⟨C, 5, none⟩ = some (.int .i64 c.b)) (hkp : w2.cell? ⟨PB, 0, none⟩ = some (.slice qp (partsOf c.kind).length cp)) (hpl : SlP D w2 (.slice qp (partsOf c.kind).length cp) (partsOf c.kind)) 
    (hQ : ∀ (W : World) (y28 y29 y30 y31 y32 y33 y34 y35 y36 y37 y38 y39 y40 y41 y42 y43 y44 y45 y46 y47 y48 y49 : Value), Below w2.heap.size w2 W → Q .normal ⟨[x0, x1, .pointer (some ⟨C, 0, none⟩), x3, x4, x5, x6, x7, .func (.func 54) #[] #[.pointer (some ⟨PB, 0, none⟩)], x9, x10, x11, x12, x13, x14, x15, x16, x17, x18, x19, x20, x21, x22, x23, x24, x25, x26, .bool ((!(rightB c.idx (hasF c.kind 3)) || (!(rightB c.a (hasF c.kind 4)) || !(rightB c.b (hasF c.kind 5))))), y28, y29, y30, y31, y32, y33, y34, y35, y36, y37, y38, y39, y40, y41, y42, y43, y44, y45, y46, y47, y48, y49, x50, x51, x52, x53, x54, x55, x56, x57, x58, x59, x60, x61, x62, x63, x64, x65, x66, x67, x68, x69, x70, x71, x72, x73, x74, x75, x76, x77, x78, x79, x80, x81, x82, x83, x84, x85, x86, x87, x88, x89, x90, x91, x92, x93, x94, x95, x96, x97, x98, x99, x100, x101, x102, x103, x104, x105, x106, x107, x108, x109, x110, x111, x112, x113, x114, x115, x116, x117, x118, x119, x120].toArray, []⟩ W) :
    (Code.region 5 ops true).wp Tryz.prog Q ⟨[x0, x1, .pointer (some ⟨C, 0, none⟩), x3, x4, x5, x6, x7, .func (.func 54) #[] #[.pointer (some ⟨PB, 0, none⟩)], x9, x10, x11, x12, x13, x14, x15, x16, x17, x18, x19, x20, x21, x22, x23, x24, x25, x26, x27, x28, x29, x30, x31, x32, x33, x34, x35, x36, x37, x38, x39, x40, x41, x42, x43, x44, x45, x46, x47, x48, x49, x50, x51, x52, x53, x54, x55, x56, x57, x58, x59, x60, x61, x62, x63, x64, x65, x66, x67, x68, x69, x70, x71, x72, x73, x74, x75, x76, x77, x78, x79, x80, x81, x82, x83, x84, x85, x86, x87, x88, x89, x90, x91, x92, x93, x94, x95, x96, x97, x98, x99, x100, x101, x102, x103, x104, x105, x106, x107, x108, x109, x110, x111, x112, x113, x114, x115, x116, x117, x118, x119, x120].toArray, []⟩ w2 := by
  simp only [Tryz.f30, Option.bind_some, regOf] at hops
  replace hops := Option.some.inj hops
  subst hops
  replace hQ := Lib.hid hQ
  obtain ⟨b3, hb3⟩ : ∃ b, hasF c.kind 3 = b := ⟨_, rfl⟩
  replace hb3 := Lib.hid hb3
  obtain ⟨b4, hb4⟩ : ∃ b, hasF c.kind 4 = b := ⟨_, rfl⟩
  replace hb4 := Lib.hid hb4
  obtain ⟨b5, hb5⟩ : ∃ b, hasF c.kind 5 = b := ⟨_, rfl⟩
  replace hb5 := Lib.hid hb5
  rw [hb3.out, hb4.out, hb5.out] at hQ
  obtain ⟨r3, hr3⟩ : ∃ r, rightB c.idx b3 = r := ⟨_, rfl⟩
  replace hr3 := Lib.hid hr3
  obtain ⟨r4, hr4⟩ : ∃ r, rightB c.a b4 = r := ⟨_, rfl⟩
  replace hr4 := Lib.hid hr4
  obtain ⟨r5, hr5⟩ : ∃ r, rightB c.b b5 = r := ⟨_, rfl⟩
  replace hr5 := Lib.hid hr5
  rw [hr3.out, hr4.out, hr5.out] at hQ
  cases r3 with
  | false =>
    simp only [Bool.not_false, Bool.true_or] at hQ
    refine wp_region_gj (J := GJ _ (SKS (S := (fun _ => False)) (fun κ => match κ with | 0 => KS.eq (.pointer (some ⟨C, 3, none⟩)) | 1 => KS.eq (.int .i64 c.idx) | 2 => KS.eq (.func (.func 54) #[] #[.pointer (some ⟨PB, 0, none⟩)]) | 3 => KS.eq (.bool b3) | 4 => KS.eq (.bool false) | 5 => KS.eq (.bool true) | 6 => KS.eq (.bool true) | 7 => KS.eq undef | 8 => KS.eq undef | 9 => KS.eq undef | 10 => KS.eq undef | 11 => KS.eq undef | 12 => KS.eq undef | 13 => KS.eq (.bool true) | 14 => KS.eq (.bool true) | 15 => KS.eq undef | 16 => KS.eq undef | 17 => KS.eq undef | 18 => KS.eq undef | 19 => KS.eq undef | 20 => KS.eq undef | 21 => KS.eq (.bool true) | 22 => KS.eq (.bool true) | _ => KS.any)) (fun _ _ w => Below w2.heap.size w2 w) _) (by kernel_rfl) ?_ ?_ (GJ.start (below_dr (Below.refl _ _)))
    · intro listed a w9 i hr hj
      obtain ⟨hi12, hun, _, _, _⟩ := ready_mem hr
      have h12 : i ∈ List.range 23 := List.mem_range.2 hi12
      simp only [List.range, List.range.loop, List.mem_cons, List.not_mem_nil, or_false] at h12
      obtain ⟨f, hae, hcm, hf, hdo, hdi⟩ := hj.open3 [28, 29, 30, 31, 32, 33, 34, 35, 36, 37, 38, 39, 40, 41, 42, 43, 44, 45, 46, 47, 48, 49, 27] (by kernel_rfl) (by kernel_rfl)
      simp only [List.foldl_cons, List.foldl_nil, List.setIfInBounds_toArray, List.set_cons_zero, List.set_cons_succ] at hae
      subst hae
      replace hcm : Below w2.heap.size w2 w9 := hcm
      rcases h12 with rfl | rfl | rfl | rfl | rfl | rfl | rfl | rfl | rfl | rfl | rfl | rfl | rfl | rfl | rfl | rfl | rfl | rfl | rfl | rfl | rfl | rfl | rfl
      · refine GJ.op hj hdo hr rfl _ hdi (fun K hK => ?_)
        clear hj hf hdo hdi
        go_simp
        exact hK _ _ (fun k v _ _ h => h) (fun t ht => rfl) hcm
      · have e1 : f 28 = .pointer (some ⟨C, 3, none⟩) := hf 0 _ _ rfl rfl (up_dep hr (by kernel_rfl))
        obtain ⟨kc, klt⟩ := kcl hcm hk3
        refine GJ.op hj hdo hr rfl _ hdi (fun K hK => ?_)
        clear hj hf hdo hdi
        rw [e1] at hK ⊢
        clear e1
        go_simp
        exact hK _ _ (fun k v _ _ h => h) (fun t ht => rfl) hcm
      · refine GJ.op hj hdo hr rfl _ hdi (fun K hK => ?_)
        clear hj hf hdo hdi
        go_simp
        exact hK _ _ (fun k v _ _ h => h) (fun t ht => rfl) hcm
      · have e1 : f 30 = .func (.func 54) #[] #[.pointer (some ⟨PB, 0, none⟩)] := hf 2 _ _ rfl rfl (up_dep hr (by kernel_rfl))
        have kc := keep_cell hcm hkp
        have klt := World.block_lt_of_cell? _ _ kc
        simp only at klt
        refine GJ.op hj hdo hr rfl _ hdi (fun K hK => ?_)
        clear hj hf hdo hdi
        rw [e1] at hK ⊢
        clear e1
        go_simp
        refine (has_c _ w9 c.kind 3 PB _ (keep_cell hcm hkp) (SlP.after hpl hcm)).mono ?_
        rw [hb3.out]
        rintro e w10 ⟨rfl, hb10⟩
        exact hK _ _ (fun k v _ _ h => KS.st _ _ _ _ (Fx.of_below hb10) h) (fun t ht => rfl) (hcm.trans (hb10.mono hcm.size))
      · have e1 : f 29 = .int .i64 c.idx := hf 1 _ _ rfl rfl (up_dep hr (by kernel_rfl))
        have e2 : f 31 = .bool b3 := hf 3 _ _ rfl rfl (up_dep hr (by kernel_rfl))
        refine GJ.op hj hdo hr rfl _ hdi (fun K hK => ?_)
        clear hj hf hdo hdi
        rw [e1, e2] at hK ⊢
        clear e1 e2
        go_simp
        refine (right_n w9 c.idx b3).mono ?_
        rw [hr3.out]
        rintro e w10 ⟨rfl, hb10⟩
        exact hK _ _ (fun k v _ _ h => KS.st _ _ _ _ (Fx.of_below hb10) h) (fun t ht => rfl) (hcm.trans (hb10.mono hcm.size))
      · have e1 : f 32 = .bool false := hf 4 _ _ rfl rfl (up_dep hr (by kernel_rfl))
        refine GJ.op hj hdo hr rfl _ hdi (fun K hK => ?_)
        clear hj hf hdo hdi
        rw [e1] at hK ⊢
        clear e1
        go_simp
        exact hK _ _ (fun k v _ _ h => h) (fun t ht => rfl) hcm
      · have e1 : f 33 = .bool true := hf 5 _ _ rfl rfl (up_dep hr (by kernel_rfl))
        refine GJ.op hj hdo hr rfl _ hdi (fun K hK => ?_)
        clear hj hf hdo hdi
        rw [e1] at hK ⊢
        clear e1
        go_simp
        exact hK _ _ (fun k v _ _ h => h) (fun t ht => rfl) hcm
      · have gg : f 34 = .bool true := hf 6 _ _ rfl rfl (up_dep hr (by kernel_rfl))
        refine GJ.no hj hdo hr rfl _ hdi rfl (j := 6) rfl rfl (c := true) gg rfl (fun k v _ _ h => h) (fun t ht => rfl) ?_
        exact hcm
      · have gg : f 34 = .bool true := hf 6 _ _ rfl rfl (up_dep hr (by kernel_rfl))
        refine GJ.no hj hdo hr rfl _ hdi rfl (j := 6) rfl rfl (c := true) gg rfl (fun k v _ _ h => h) (fun t ht => rfl) ?_
        exact hcm
      · have gg : f 34 = .bool true := hf 6 _ _ rfl rfl (up_dep hr (by kernel_rfl))
        refine GJ.no hj hdo hr rfl _ hdi rfl (j := 6) rfl rfl (c := true) gg rfl (fun k v _ _ h => h) (fun t ht => rfl) ?_
        exact hcm
      · have gg : f 34 = .bool true := hf 6 _ _ rfl rfl (up_dep hr (by kernel_rfl))
        refine GJ.no hj hdo hr rfl _ hdi rfl (j := 6) rfl rfl (c := true) gg rfl (fun k v _ _ h => h) (fun t ht => rfl) ?_
        exact hcm
      · have gg : f 34 = .bool true := hf 6 _ _ rfl rfl (up_dep hr (by kernel_rfl))
        refine GJ.no hj hdo hr rfl _ hdi rfl (j := 6) rfl rfl (c := true) gg rfl (fun k v _ _ h => h) (fun t ht => rfl) ?_
        exact hcm
      · have gg : f 34 = .bool true := hf 6 _ _ rfl rfl (up_dep hr (by kernel_rfl))
        refine GJ.no hj hdo hr rfl _ hdi rfl (j := 6) rfl rfl (c := true) gg rfl (fun k v _ _ h => h) (fun t ht => rfl) ?_
        exact hcm
      · have e1 : f 34 = .bool true := hf 6 _ _ rfl rfl (up_dep hr (by kernel_rfl))
        refine GJ.op hj hdo hr rfl _ hdi (fun K hK => ?_)
        clear hj hf hdo hdi
        rw [e1] at hK ⊢
        clear e1
        go_simp
        exact hK _ _ (fun k v _ _ h => h) (fun t ht => rfl) hcm
      · have e1 : f 41 = .bool true := hf 13 _ _ rfl rfl (up_dep hr (by kernel_rfl))
        refine GJ.op hj hdo hr rfl _ hdi (fun K hK => ?_)
        clear hj hf hdo hdi
        rw [e1] at hK ⊢
        clear e1
        go_simp
        exact hK _ _ (fun k v _ _ h => h) (fun t ht => rfl) hcm
      · have gg : f 42 = .bool true := hf 14 _ _ rfl rfl (up_dep hr (by kernel_rfl))
        refine GJ.no hj hdo hr rfl _ hdi rfl (j := 14) rfl rfl (c := true) gg rfl (fun k v _ _ h => h) (fun t ht => rfl) ?_
        exact hcm
      · have gg : f 42 = .bool true := hf 14 _ _ rfl rfl (up_dep hr (by kernel_rfl))
        refine GJ.no hj hdo hr rfl _ hdi rfl (j := 14) rfl rfl (c := true) gg rfl (fun k v _ _ h => h) (fun t ht => rfl) ?_
        exact hcm
      · have gg : f 42 = .bool true := hf 14 _ _ rfl rfl (up_dep hr (by kernel_rfl))
        refine GJ.no hj hdo hr rfl _ hdi rfl (j := 14) rfl rfl (c := true) gg rfl (fun k v _ _ h => h) (fun t ht => rfl) ?_
        exact hcm
      · have gg : f 42 = .bool true := hf 14 _ _ rfl rfl (up_dep hr (by kernel_rfl))
        refine GJ.no hj hdo hr rfl _ hdi rfl (j := 14) rfl rfl (c := true) gg rfl (fun k v _ _ h => h) (fun t ht => rfl) ?_
        exact hcm
      · have gg : f 42 = .bool true := hf 14 _ _ rfl rfl (up_dep hr (by kernel_rfl))
        refine GJ.no hj hdo hr rfl _ hdi rfl (j := 14) rfl rfl (c := true) gg rfl (fun k v _ _ h => h) (fun t ht => rfl) ?_
        exact hcm
      · have gg : f 42 = .bool true := hf 14 _ _ rfl rfl (up_dep hr (by kernel_rfl))
        refine GJ.no hj hdo hr rfl _ hdi rfl (j := 14) rfl rfl (c := true) gg rfl (fun k v _ _ h => h) (fun t ht => rfl) ?_
        exact hcm
      · have e1 : f 42 = .bool true := hf 14 _ _ rfl rfl (up_dep hr (by kernel_rfl))
        refine GJ.op hj hdo hr rfl _ hdi (fun K hK => ?_)
        clear hj hf hdo hdi
        rw [e1] at hK ⊢
        clear e1
        go_simp
        exact hK _ _ (fun k v _ _ h => h) (fun t ht => rfl) hcm
      · have e1 : f 49 = .bool true := hf 21 _ _ rfl rfl (up_dep hr (by kernel_rfl))
        refine GJ.op hj hdo hr rfl _ hdi (fun K hK => ?_)
        clear hj hf hdo hdi
        rw [e1] at hK ⊢
        clear e1
        go_simp
        exact hK _ _ (fun k v _ _ h => h) (fun t ht => rfl) hcm
    · intro listed a w10 hr hj
      have hu : ∀ k, k < 23 → up listed k := fun k hk => all_up (by kernel_rfl) hj.lsize hr k hk
      obtain ⟨f, hae, hcm, hf⟩ := hj.opened [28, 29, 30, 31, 32, 33, 34, 35, 36, 37, 38, 39, 40, 41, 42, 43, 44, 45, 46, 47, 48, 49, 27] (by kernel_rfl)
      simp only [List.foldl_cons, List.foldl_nil, List.setIfInBounds_toArray, List.set_cons_zero, List.set_cons_succ] at hae
      subst hae
      replace hcm : Below w2.heap.size w2 w10 := hcm
      have E : f 27 = .bool true := hf 22 _ _ rfl rfl (hu 22 (by omega))
      have HCM := Lib.hid hcm
      clear hcm hf hj hr hu
      rw [E]
      clear E
      exact hQ.out _ (f 28) (f 29) (f 30) (f 31) (f 32) (f 33) (f 34) (f 35) (f 36) (f 37) (f 38) (f 39) (f 40) (f 41) (f 42) (f 43) (f 44) (f 45) (f 46) (f 47) (f 48) (f 49) HCM.out
  | true =>
    cases r4 with
    | false =>
      simp only [Bool.not_false, Bool.not_true, Bool.true_or, Bool.false_or] at hQ
      refine wp_region_gj (J := GJ _ (SKS (S := (fun _ => False)) (fun κ => match κ with | 0 => KS.eq (.pointer (some ⟨C, 3, none⟩)) | 1 => KS.eq (.int .i64 c.idx) | 2 => KS.eq (.func (.func 54) #[] #[.pointer (some ⟨PB, 0, none⟩)]) | 3 => KS.eq (.bool b3) | 4 => KS.eq (.bool true) | 5 => KS.eq (.bool false) | 6 => KS.eq (.bool false) | 7 => KS.eq (.pointer (some ⟨C, 4, none⟩)) | 8 => KS.eq (.int .i64 c.a) | 9 => KS.eq (.func (.func 54) #[] #[.pointer (some ⟨PB, 0, none⟩)]) | 10 => KS.eq (.bool b4) | 11 => KS.eq (.bool false) | 12 => KS.eq (.bool true) | 13 => KS.eq (.bool true) | 14 => KS.eq (.bool true) | 15 => KS.eq undef | 16 => KS.eq undef | 17 => KS.eq undef | 18 => KS.eq undef | 19 => KS.eq undef | 20 => KS.eq undef | 21 => KS.eq (.bool true) | 22 => KS.eq (.bool true) | _ => KS.any)) (fun _ _ w => Below w2.heap.size w2 w) _) (by kernel_rfl) ?_ ?_ (GJ.start (below_dr (Below.refl _ _)))
      · intro listed a w9 i hr hj
        obtain ⟨hi12, hun, _, _, _⟩ := ready_mem hr
        have h12 : i ∈ List.range 23 := List.mem_range.2 hi12
        simp only [List.range, List.range.loop, List.mem_cons, List.not_mem_nil, or_false] at h12
        obtain ⟨f, hae, hcm, hf, hdo, hdi⟩ := hj.open3 [28, 29, 30, 31, 32, 33, 34, 35, 36, 37, 38, 39, 40, 41, 42, 43, 44, 45, 46, 47, 48, 49, 27] (by kernel_rfl) (by kernel_rfl)
        simp only [List.foldl_cons, List.foldl_nil, List.setIfInBounds_toArray, List.set_cons_zero, List.set_cons_succ] at hae
        subst hae
        replace hcm : Below w2.heap.size w2 w9 := hcm
        rcases h12 with rfl | rfl | rfl | rfl | rfl | rfl | rfl | rfl | rfl | rfl | rfl | rfl | rfl | rfl | rfl | rfl | rfl | rfl | rfl | rfl | rfl | rfl | rfl
        · refine GJ.op hj hdo hr rfl _ hdi (fun K hK => ?_)
          clear hj hf hdo hdi
          go_simp
          exact hK _ _ (fun k v _ _ h => h) (fun t ht => rfl) hcm
        · have e1 : f 28 = .pointer (some ⟨C, 3, none⟩) := hf 0 _ _ rfl rfl (up_dep hr (by kernel_rfl))
          obtain ⟨kc, klt⟩ := kcl hcm hk3
          refine GJ.op hj hdo hr rfl _ hdi (fun K hK => ?_)
          clear hj hf hdo hdi
          rw [e1] at hK ⊢
          clear e1
          go_simp
          exact hK _ _ (fun k v _ _ h => h) (fun t ht => rfl) hcm
        · refine GJ.op hj hdo hr rfl _ hdi (fun K hK => ?_)
          clear hj hf hdo hdi
          go_simp
          exact hK _ _ (fun k v _ _ h => h) (fun t ht => rfl) hcm
        · have e1 : f 30 = .func (.func 54) #[] #[.pointer (some ⟨PB, 0, none⟩)] := hf 2 _ _ rfl rfl (up_dep hr (by kernel_rfl))
          have kc := keep_cell hcm hkp
          have klt := World.block_lt_of_cell? _ _ kc
          simp only at klt
          refine GJ.op hj hdo hr rfl _ hdi (fun K hK => ?_)
          clear hj hf hdo hdi
          rw [e1] at hK ⊢
          clear e1
          go_simp
          refine (has_c _ w9 c.kind 3 PB _ (keep_cell hcm hkp) (SlP.after hpl hcm)).mono ?_
          rw [hb3.out]
          rintro e w10 ⟨rfl, hb10⟩
          exact hK _ _ (fun k v _ _ h => KS.st _ _ _ _ (Fx.of_below hb10) h) (fun t ht => rfl) (hcm.trans (hb10.mono hcm.size))
        · have e1 : f 29 = .int .i64 c.idx := hf 1 _ _ rfl rfl (up_dep hr (by kernel_rfl))
          have e2 : f 31 = .bool b3 := hf 3 _ _ rfl rfl (up_dep hr (by kernel_rfl))
          refine GJ.op hj hdo hr rfl _ hdi (fun K hK => ?_)
          clear hj hf hdo hdi
          rw [e1, e2] at hK ⊢
          clear e1 e2
          go_simp
          refine (right_n w9 c.idx b3).mono ?_
          rw [hr3.out]
          rintro e w10 ⟨rfl, hb10⟩
          exact hK _ _ (fun k v _ _ h => KS.st _ _ _ _ (Fx.of_below hb10) h) (fun t ht => rfl) (hcm.trans (hb10.mono hcm.size))
        · have e1 : f 32 = .bool true := hf 4 _ _ rfl rfl (up_dep hr (by kernel_rfl))
          refine GJ.op hj hdo hr rfl _ hdi (fun K hK => ?_)
          clear hj hf hdo hdi
          rw [e1] at hK ⊢
          clear e1
          go_simp
          exact hK _ _ (fun k v _ _ h => h) (fun t ht => rfl) hcm
        · have e1 : f 33 = .bool false := hf 5 _ _ rfl rfl (up_dep hr (by kernel_rfl))
          refine GJ.op hj hdo hr rfl _ hdi (fun K hK => ?_)
          clear hj hf hdo hdi
          rw [e1] at hK ⊢
          clear e1
          go_simp
          exact hK _ _ (fun k v _ _ h => h) (fun t ht => rfl) hcm
        · have gg : f 34 = .bool false := hf 6 _ _ rfl rfl (up_dep hr (by kernel_rfl))
          refine GJ.yes hj hdo hr rfl _ hdi rfl (j := 6) rfl rfl (c := false) gg rfl (fun K hK => ?_)
          clear gg
          clear hj hf hdo hdi
          go_simp
          exact hK _ _ (fun k v _ _ h => h) (fun t ht => rfl) hcm
        · have gg : f 34 = .bool false := hf 6 _ _ rfl rfl (up_dep hr (by kernel_rfl))
          have e1 : f 35 = .pointer (some ⟨C, 4, none⟩) := hf 7 _ _ rfl rfl (up_dep hr (by kernel_rfl))
          obtain ⟨kc, klt⟩ := kcl hcm hk4
          refine GJ.yes hj hdo hr rfl _ hdi rfl (j := 6) rfl rfl (c := false) gg rfl (fun K hK => ?_)
          clear gg
          clear hj hf hdo hdi
          rw [e1] at hK ⊢
          clear e1
          go_simp
          exact hK _ _ (fun k v _ _ h => h) (fun t ht => rfl) hcm
        · have gg : f 34 = .bool false := hf 6 _ _ rfl rfl (up_dep hr (by kernel_rfl))
          refine GJ.yes hj hdo hr rfl _ hdi rfl (j := 6) rfl rfl (c := false) gg rfl (fun K hK => ?_)
          clear gg
          clear hj hf hdo hdi
          go_simp
          exact hK _ _ (fun k v _ _ h => h) (fun t ht => rfl) hcm
        · have gg : f 34 = .bool false := hf 6 _ _ rfl rfl (up_dep hr (by kernel_rfl))
          have e1 : f 37 = .func (.func 54) #[] #[.pointer (some ⟨PB, 0, none⟩)] := hf 9 _ _ rfl rfl (up_dep hr (by kernel_rfl))
          have kc := keep_cell hcm hkp
          have klt := World.block_lt_of_cell? _ _ kc
          simp only at klt
          refine GJ.yes hj hdo hr rfl _ hdi rfl (j := 6) rfl rfl (c := false) gg rfl (fun K hK => ?_)
          clear gg
          clear hj hf hdo hdi
          rw [e1] at hK ⊢
          clear e1
          go_simp
          refine (has_c _ w9 c.kind 4 PB _ (keep_cell hcm hkp) (SlP.after hpl hcm)).mono ?_
          rw [hb4.out]
          rintro e w10 ⟨rfl, hb10⟩
          exact hK _ _ (fun k v _ _ h => KS.st _ _ _ _ (Fx.of_below hb10) h) (fun t ht => rfl) (hcm.trans (hb10.mono hcm.size))
        · have gg : f 34 = .bool false := hf 6 _ _ rfl rfl (up_dep hr (by kernel_rfl))
          have e1 : f 36 = .int .i64 c.a := hf 8 _ _ rfl rfl (up_dep hr (by kernel_rfl))
          have e2 : f 38 = .bool b4 := hf 10 _ _ rfl rfl (up_dep hr (by kernel_rfl))
          refine GJ.yes hj hdo hr rfl _ hdi rfl (j := 6) rfl rfl (c := false) gg rfl (fun K hK => ?_)
          clear gg
          clear hj hf hdo hdi
          rw [e1, e2] at hK ⊢
          clear e1 e2
          go_simp
          refine (right_n w9 c.a b4).mono ?_
          rw [hr4.out]
          rintro e w10 ⟨rfl, hb10⟩
          exact hK _ _ (fun k v _ _ h => KS.st _ _ _ _ (Fx.of_below hb10) h) (fun t ht => rfl) (hcm.trans (hb10.mono hcm.size))
        · have gg : f 34 = .bool false := hf 6 _ _ rfl rfl (up_dep hr (by kernel_rfl))
          have e1 : f 39 = .bool false := hf 11 _ _ rfl rfl (up_dep hr (by kernel_rfl))
          refine GJ.yes hj hdo hr rfl _ hdi rfl (j := 6) rfl rfl (c := false) gg rfl (fun K hK => ?_)
          clear gg
          clear hj hf hdo hdi
          rw [e1] at hK ⊢
          clear e1
          go_simp
          exact hK _ _ (fun k v _ _ h => h) (fun t ht => rfl) hcm
        · have e1 : f 34 = .bool false := hf 6 _ _ rfl rfl (up_dep hr (by kernel_rfl))
          have e2 : f 40 = .bool true := hf 12 _ _ rfl rfl (up_dep hr (by kernel_rfl))
          refine GJ.op hj hdo hr rfl _ hdi (fun K hK => ?_)
          clear hj hf hdo hdi
          rw [e1, e2] at hK ⊢
          clear e1 e2
          go_simp
          exact hK _ _ (fun k v _ _ h => h) (fun t ht => rfl) hcm
        · have e1 : f 41 = .bool true := hf 13 _ _ rfl rfl (up_dep hr (by kernel_rfl))
          refine GJ.op hj hdo hr rfl _ hdi (fun K hK => ?_)
          clear hj hf hdo hdi
          rw [e1] at hK ⊢
          clear e1
          go_simp
          exact hK _ _ (fun k v _ _ h => h) (fun t ht => rfl) hcm
        · have gg : f 42 = .bool true := hf 14 _ _ rfl rfl (up_dep hr (by kernel_rfl))
          refine GJ.no hj hdo hr rfl _ hdi rfl (j := 14) rfl rfl (c := true) gg rfl (fun k v _ _ h => h) (fun t ht => rfl) ?_
          exact hcm
        · have gg : f 42 = .bool true := hf 14 _ _ rfl rfl (up_dep hr (by kernel_rfl))
          refine GJ.no hj hdo hr rfl _ hdi rfl (j := 14) rfl rfl (c := true) gg rfl (fun k v _ _ h => h) (fun t ht => rfl) ?_
          exact hcm
        · have gg : f 42 = .bool true := hf 14 _ _ rfl rfl (up_dep hr (by kernel_rfl))
          refine GJ.no hj hdo hr rfl _ hdi rfl (j := 14) rfl rfl (c := true) gg rfl (fun k v _ _ h => h) (fun t ht => rfl) ?_
          exact hcm
        · have gg : f 42 = .bool true := hf 14 _ _ rfl rfl (up_dep hr (by kernel_rfl))
          refine GJ.no hj hdo hr rfl _ hdi rfl (j := 14) rfl rfl (c := true) gg rfl (fun k v _ _ h => h) (fun t ht => rfl) ?_
          exact hcm
        · have gg : f 42 = .bool true := hf 14 _ _ rfl rfl (up_dep hr (by kernel_rfl))
          refine GJ.no hj hdo hr rfl _ hdi rfl (j := 14) rfl rfl (c := true) gg rfl (fun k v _ _ h => h) (fun t ht => rfl) ?_
          exact hcm
        · have gg : f 42 = .bool true := hf 14 _ _ rfl rfl (up_dep hr (by kernel_rfl))
          refine GJ.no hj hdo hr rfl _ hdi rfl (j := 14) rfl rfl (c := true) gg rfl (fun k v _ _ h => h) (fun t ht => rfl) ?_
          exact hcm
        · have e1 : f 42 = .bool true := hf 14 _ _ rfl rfl (up_dep hr (by kernel_rfl))
          refine GJ.op hj hdo hr rfl _ hdi (fun K hK => ?_)
          clear hj hf hdo hdi
          rw [e1] at hK ⊢
          clear e1
          go_simp
          exact hK _ _ (fun k v _ _ h => h) (fun t ht => rfl) hcm
        · have e1 : f 49 = .bool true := hf 21 _ _ rfl rfl (up_dep hr (by kernel_rfl))
          refine GJ.op hj hdo hr rfl _ hdi (fun K hK => ?_)
          clear hj hf hdo hdi
          rw [e1] at hK ⊢
          clear e1
          go_simp
          exact hK _ _ (fun k v _ _ h => h) (fun t ht => rfl) hcm
      · intro listed a w10 hr hj
        have hu : ∀ k, k < 23 → up listed k := fun k hk => all_up (by kernel_rfl) hj.lsize hr k hk
        obtain ⟨f, hae, hcm, hf⟩ := hj.opened [28, 29, 30, 31, 32, 33, 34, 35, 36, 37, 38, 39, 40, 41, 42, 43, 44, 45, 46, 47, 48, 49, 27] (by kernel_rfl)
        simp only [List.foldl_cons, List.foldl_nil, List.setIfInBounds_toArray, List.set_cons_zero, List.set_cons_succ] at hae
        subst hae
        replace hcm : Below w2.heap.size w2 w10 := hcm
        have E : f 27 = .bool true := hf 22 _ _ rfl rfl (hu 22 (by omega))
        have HCM := Lib.hid hcm
        clear hcm hf hj hr hu
        rw [E]
        clear E
        exact hQ.out _ (f 28) (f 29) (f 30) (f 31) (f 32) (f 33) (f 34) (f 35) (f 36) (f 37) (f 38) (f 39) (f 40) (f 41) (f 42) (f 43) (f 44) (f 45) (f 46) (f 47) (f 48) (f 49) HCM.out
    | true =>
      simp only [Bool.not_true, Bool.false_or] at hQ
      refine wp_region_gj (J := GJ _ (SKS (S := (fun _ => False)) (fun κ => match κ with | 0 => KS.eq (.pointer (some ⟨C, 3, none⟩)) | 1 => KS.eq (.int .i64 c.idx) | 2 => KS.eq (.func (.func 54) #[] #[.pointer (some ⟨PB, 0, none⟩)]) | 3 => KS.eq (.bool b3) | 4 => KS.eq (.bool true) | 5 => KS.eq (.bool false) | 6 => KS.eq (.bool false) | 7 => KS.eq (.pointer (some ⟨C, 4, none⟩)) | 8 => KS.eq (.int .i64 c.a) | 9 => KS.eq (.func (.func 54) #[] #[.pointer (some ⟨PB, 0, none⟩)]) | 10 => KS.eq (.bool b4) | 11 => KS.eq (.bool true) | 12 => KS.eq (.bool false) | 13 => KS.eq (.bool false) | 14 => KS.eq (.bool false) | 15 => KS.eq (.pointer (some ⟨C, 5, none⟩)) | 16 => KS.eq (.int .i64 c.b) | 17 => KS.eq (.func (.func 54) #[] #[.pointer (some ⟨PB, 0, none⟩)]) | 18 => KS.eq (.bool b5) | 19 => KS.eq (.bool r5) | 20 => KS.eq (.bool !r5) | 21 => KS.eq (.bool !r5) | 22 => KS.eq (.bool !r5) | _ => KS.any)) (fun _ _ w => Below w2.heap.size w2 w) _) (by kernel_rfl) ?_ ?_ (GJ.start (below_dr (Below.refl _ _)))
      · intro listed a w9 i hr hj
        obtain ⟨hi12, hun, _, _, _⟩ := ready_mem hr
        have h12 : i ∈ List.range 23 := List.mem_range.2 hi12
        simp only [List.range, List.range.loop, List.mem_cons, List.not_mem_nil, or_false] at h12
        obtain ⟨f, hae, hcm, hf, hdo, hdi⟩ := hj.open3 [28, 29, 30, 31, 32, 33, 34, 35, 36, 37, 38, 39, 40, 41, 42, 43, 44, 45, 46, 47, 48, 49, 27] (by kernel_rfl) (by kernel_rfl)
        simp only [List.foldl_cons, List.foldl_nil, List.setIfInBounds_toArray, List.set_cons_zero, List.set_cons_succ] at hae
        subst hae
        replace hcm : Below w2.heap.size w2 w9 := hcm
        rcases h12 with rfl | rfl | rfl | rfl | rfl | rfl | rfl | rfl | rfl | rfl | rfl | rfl | rfl | rfl | rfl | rfl | rfl | rfl | rfl | rfl | rfl | rfl | rfl
        · refine GJ.op hj hdo hr rfl _ hdi (fun K hK => ?_)
          clear hj hf hdo hdi
          go_simp
          exact hK _ _ (fun k v _ _ h => h) (fun t ht => rfl) hcm
        · have e1 : f 28 = .pointer (some ⟨C, 3, none⟩) := hf 0 _ _ rfl rfl (up_dep hr (by kernel_rfl))
          obtain ⟨kc, klt⟩ := kcl hcm hk3
          refine GJ.op hj hdo hr rfl _ hdi (fun K hK => ?_)
          clear hj hf hdo hdi
          rw [e1] at hK ⊢
          clear e1
          go_simp
          exact hK _ _ (fun k v _ _ h => h) (fun t ht => rfl) hcm
        · refine GJ.op hj hdo hr rfl _ hdi (fun K hK => ?_)
          clear hj hf hdo hdi
          go_simp
          exact hK _ _ (fun k v _ _ h => h) (fun t ht => rfl) hcm
        · have e1 : f 30 = .func (.func 54) #[] #[.pointer (some ⟨PB, 0, none⟩)] := hf 2 _ _ rfl rfl (up_dep hr (by kernel_rfl))
          have kc := keep_cell hcm hkp
          have klt := World.block_lt_of_cell? _ _ kc
          simp only at klt
          refine GJ.op hj hdo hr rfl _ hdi (fun K hK => ?_)
          clear hj hf hdo hdi
          rw [e1] at hK ⊢
          clear e1
          go_simp
          refine (has_c _ w9 c.kind 3 PB _ (keep_cell hcm hkp) (SlP.after hpl hcm)).mono ?_
          rw [hb3.out]
          rintro e w10 ⟨rfl, hb10⟩
          exact hK _ _ (fun k v _ _ h => KS.st _ _ _ _ (Fx.of_below hb10) h) (fun t ht => rfl) (hcm.trans (hb10.mono hcm.size))
        · have e1 : f 29 = .int .i64 c.idx := hf 1 _ _ rfl rfl (up_dep hr (by kernel_rfl))
          have e2 : f 31 = .bool b3 := hf 3 _ _ rfl rfl (up_dep hr (by kernel_rfl))
          refine GJ.op hj hdo hr rfl _ hdi (fun K hK => ?_)
          clear hj hf hdo hdi
          rw [e1, e2] at hK ⊢
          clear e1 e2
          go_simp
          refine (right_n w9 c.idx b3).mono ?_
          rw [hr3.out]
          rintro e w10 ⟨rfl, hb10⟩
          exact hK _ _ (fun k v _ _ h => KS.st _ _ _ _ (Fx.of_below hb10) h) (fun t ht => rfl) (hcm.trans (hb10.mono hcm.size))
        · have e1 : f 32 = .bool true := hf 4 _ _ rfl rfl (up_dep hr (by kernel_rfl))
          refine GJ.op hj hdo hr rfl _ hdi (fun K hK => ?_)
          clear hj hf hdo hdi
          rw [e1] at hK ⊢
          clear e1
          go_simp
          exact hK _ _ (fun k v _ _ h => h) (fun t ht => rfl) hcm
        · have e1 : f 33 = .bool false := hf 5 _ _ rfl rfl (up_dep hr (by kernel_rfl))
          refine GJ.op hj hdo hr rfl _ hdi (fun K hK => ?_)
          clear hj hf hdo hdi
          rw [e1] at hK ⊢
          clear e1
          go_simp
          exact hK _ _ (fun k v _ _ h => h) (fun t ht => rfl) hcm
        · have gg : f 34 = .bool false := hf 6 _ _ rfl rfl (up_dep hr (by kernel_rfl))
          refine GJ.yes hj hdo hr rfl _ hdi rfl (j := 6) rfl rfl (c := false) gg rfl (fun K hK => ?_)
          clear gg
          clear hj hf hdo hdi
          go_simp
          exact hK _ _ (fun k v _ _ h => h) (fun t ht => rfl) hcm
        · have gg : f 34 = .bool false := hf 6 _ _ rfl rfl (up_dep hr (by kernel_rfl))
          have e1 : f 35 = .pointer (some ⟨C, 4, none⟩) := hf 7 _ _ rfl rfl (up_dep hr (by kernel_rfl))
          obtain ⟨kc, klt⟩ := kcl hcm hk4
          refine GJ.yes hj hdo hr rfl _ hdi rfl (j := 6) rfl rfl (c := false) gg rfl (fun K hK => ?_)
          clear gg
          clear hj hf hdo hdi
          rw [e1] at hK ⊢
          clear e1
          go_simp
          exact hK _ _ (fun k v _ _ h => h) (fun t ht => rfl) hcm
        · have gg : f 34 = .bool false := hf 6 _ _ rfl rfl (up_dep hr (by kernel_rfl))
          refine GJ.yes hj hdo hr rfl _ hdi rfl (j := 6) rfl rfl (c := false) gg rfl (fun K hK => ?_)
          clear gg
          clear hj hf hdo hdi
          go_simp
          exact hK _ _ (fun k v _ _ h => h) (fun t ht => rfl) hcm
        · have gg : f 34 = .bool false := hf 6 _ _ rfl rfl (up_dep hr (by kernel_rfl))
          have e1 : f 37 = .func (.func 54) #[] #[.pointer (some ⟨PB, 0, none⟩)] := hf 9 _ _ rfl rfl (up_dep hr (by kernel_rfl))
          have kc := keep_cell hcm hkp
          have klt := World.block_lt_of_cell? _ _ kc
          simp only at klt
          refine GJ.yes hj hdo hr rfl _ hdi rfl (j := 6) rfl rfl (c := false) gg rfl (fun K hK => ?_)
          clear gg
          clear hj hf hdo hdi
          rw [e1] at hK ⊢
          clear e1
          go_simp
          refine (has_c _ w9 c.kind 4 PB _ (keep_cell hcm hkp) (SlP.after hpl hcm)).mono ?_
          rw [hb4.out]
          rintro e w10 ⟨rfl, hb10⟩
          exact hK _ _ (fun k v _ _ h => KS.st _ _ _ _ (Fx.of_below hb10) h) (fun t ht => rfl) (hcm.trans (hb10.mono hcm.size))
        · have gg : f 34 = .bool false := hf 6 _ _ rfl rfl (up_dep hr (by kernel_rfl))
          have e1 : f 36 = .int .i64 c.a := hf 8 _ _ rfl rfl (up_dep hr (by kernel_rfl))
          have e2 : f 38 = .bool b4 := hf 10 _ _ rfl rfl (up_dep hr (by kernel_rfl))
          refine GJ.yes hj hdo hr rfl _ hdi rfl (j := 6) rfl rfl (c := false) gg rfl (fun K hK => ?_)
          clear gg
          clear hj hf hdo hdi
          rw [e1, e2] at hK ⊢
          clear e1 e2
          go_simp
          refine (right_n w9 c.a b4).mono ?_
          rw [hr4.out]
          rintro e w10 ⟨rfl, hb10⟩
          exact hK _ _ (fun k v _ _ h => KS.st _ _ _ _ (Fx.of_below hb10) h) (fun t ht => rfl) (hcm.trans (hb10.mono hcm.size))
        · have gg : f 34 = .bool false := hf 6 _ _ rfl rfl (up_dep hr (by kernel_rfl))
          have e1 : f 39 = .bool true := hf 11 _ _ rfl rfl (up_dep hr (by kernel_rfl))
          refine GJ.yes hj hdo hr rfl _ hdi rfl (j := 6) rfl rfl (c := false) gg rfl (fun K hK => ?_)
          clear gg
          clear hj hf hdo hdi
          rw [e1] at hK ⊢
          clear e1
          go_simp
          exact hK _ _ (fun k v _ _ h => h) (fun t ht => rfl) hcm
        · have e1 : f 34 = .bool false := hf 6 _ _ rfl rfl (up_dep hr (by kernel_rfl))
          have e2 : f 40 = .bool false := hf 12 _ _ rfl rfl (up_dep hr (by kernel_rfl))
          refine GJ.op hj hdo hr rfl _ hdi (fun K hK => ?_)
          clear hj hf hdo hdi
          rw [e1, e2] at hK ⊢
          clear e1 e2
          go_simp
          exact hK _ _ (fun k v _ _ h => h) (fun t ht => rfl) hcm
        · have e1 : f 41 = .bool false := hf 13 _ _ rfl rfl (up_dep hr (by kernel_rfl))
          refine GJ.op hj hdo hr rfl _ hdi (fun K hK => ?_)
          clear hj hf hdo hdi
          rw [e1] at hK ⊢
          clear e1
          go_simp
          exact hK _ _ (fun k v _ _ h => h) (fun t ht => rfl) hcm
        · have gg : f 42 = .bool false := hf 14 _ _ rfl rfl (up_dep hr (by kernel_rfl))
          refine GJ.yes hj hdo hr rfl _ hdi rfl (j := 14) rfl rfl (c := false) gg rfl (fun K hK => ?_)
          clear gg
          clear hj hf hdo hdi
          go_simp
          exact hK _ _ (fun k v _ _ h => h) (fun t ht => rfl) hcm
        · have gg : f 42 = .bool false := hf 14 _ _ rfl rfl (up_dep hr (by kernel_rfl))
          have e1 : f 43 = .pointer (some ⟨C, 5, none⟩) := hf 15 _ _ rfl rfl (up_dep hr (by kernel_rfl))
          obtain ⟨kc, klt⟩ := kcl hcm hk5
          refine GJ.yes hj hdo hr rfl _ hdi rfl (j := 14) rfl rfl (c := false) gg rfl (fun K hK => ?_)
          clear gg
          clear hj hf hdo hdi
          rw [e1] at hK ⊢
          clear e1
          go_simp
          exact hK _ _ (fun k v _ _ h => h) (fun t ht => rfl) hcm
        · have gg : f 42 = .bool false := hf 14 _ _ rfl rfl (up_dep hr (by kernel_rfl))
          refine GJ.yes hj hdo hr rfl _ hdi rfl (j := 14) rfl rfl (c := false) gg rfl (fun K hK => ?_)
          clear gg
          clear hj hf hdo hdi
          go_simp
          exact hK _ _ (fun k v _ _ h => h) (fun t ht => rfl) hcm
        · have gg : f 42 = .bool false := hf 14 _ _ rfl rfl (up_dep hr (by kernel_rfl))
          have e1 : f 45 = .func (.func 54) #[] #[.pointer (some ⟨PB, 0, none⟩)] := hf 17 _ _ rfl rfl (up_dep hr (by kernel_rfl))
          have kc := keep_cell hcm hkp
          have klt := World.block_lt_of_cell? _ _ kc
          simp only at klt
          refine GJ.yes hj hdo hr rfl _ hdi rfl (j := 14) rfl rfl (c := false) gg rfl (fun K hK => ?_)
          clear gg
          clear hj hf hdo hdi
          rw [e1] at hK ⊢
          clear e1
          go_simp
          refine (has_c _ w9 c.kind 5 PB _ (keep_cell hcm hkp) (SlP.after hpl hcm)).mono ?_
          rw [hb5.out]
          rintro e w10 ⟨rfl, hb10⟩
          exact hK _ _ (fun k v _ _ h => KS.st _ _ _ _ (Fx.of_below hb10) h) (fun t ht => rfl) (hcm.trans (hb10.mono hcm.size))
        · have gg : f 42 = .bool false := hf 14 _ _ rfl rfl (up_dep hr (by kernel_rfl))
          have e1 : f 44 = .int .i64 c.b := hf 16 _ _ rfl rfl (up_dep hr (by kernel_rfl))
          have e2 : f 46 = .bool b5 := hf 18 _ _ rfl rfl (up_dep hr (by kernel_rfl))
          refine GJ.yes hj hdo hr rfl _ hdi rfl (j := 14) rfl rfl (c := false) gg rfl (fun K hK => ?_)
          clear gg
          clear hj hf hdo hdi
          rw [e1, e2] at hK ⊢
          clear e1 e2
          go_simp
          refine (right_n w9 c.b b5).mono ?_
          rw [hr5.out]
          rintro e w10 ⟨rfl, hb10⟩
          exact hK _ _ (fun k v _ _ h => KS.st _ _ _ _ (Fx.of_below hb10) h) (fun t ht => rfl) (hcm.trans (hb10.mono hcm.size))
        · have gg : f 42 = .bool false := hf 14 _ _ rfl rfl (up_dep hr (by kernel_rfl))
          have e1 : f 47 = .bool r5 := hf 19 _ _ rfl rfl (up_dep hr (by kernel_rfl))
          refine GJ.yes hj hdo hr rfl _ hdi rfl (j := 14) rfl rfl (c := false) gg rfl (fun K hK => ?_)
          clear gg
          clear hj hf hdo hdi
          rw [e1] at hK ⊢
          clear e1
          go_simp
          exact hK _ _ (fun k v _ _ h => h) (fun t ht => rfl) hcm
        · have e1 : f 42 = .bool false := hf 14 _ _ rfl rfl (up_dep hr (by kernel_rfl))
          have e2 : f 48 = .bool !r5 := hf 20 _ _ rfl rfl (up_dep hr (by kernel_rfl))
          refine GJ.op hj hdo hr rfl _ hdi (fun K hK => ?_)
          clear hj hf hdo hdi
          rw [e1, e2] at hK ⊢
          clear e1 e2
          go_simp
          exact hK _ _ (fun k v _ _ h => h) (fun t ht => rfl) hcm
        · have e1 : f 49 = .bool !r5 := hf 21 _ _ rfl rfl (up_dep hr (by kernel_rfl))
          refine GJ.op hj hdo hr rfl _ hdi (fun K hK => ?_)
          clear hj hf hdo hdi
          rw [e1] at hK ⊢
          clear e1
          go_simp
          exact hK _ _ (fun k v _ _ h => h) (fun t ht => rfl) hcm
      · intro listed a w10 hr hj
        have hu : ∀ k, k < 23 → up listed k := fun k hk => all_up (by kernel_rfl) hj.lsize hr k hk
        obtain ⟨f, hae, hcm, hf⟩ := hj.opened [28, 29, 30, 31, 32, 33, 34, 35, 36, 37, 38, 39, 40, 41, 42, 43, 44, 45, 46, 47, 48, 49, 27] (by kernel_rfl)
        simp only [List.foldl_cons, List.foldl_nil, List.setIfInBounds_toArray, List.set_cons_zero, List.set_cons_succ] at hae
        subst hae
        replace hcm : Below w2.heap.size w2 w10 := hcm
        have E : f 27 = .bool !r5 := hf 22 _ _ rfl rfl (hu 22 (by omega))
        have HCM := Lib.hid hcm
        clear hcm hf hj hr hu
        rw [E]
        clear E
        exact hQ.out _ (f 28) (f 29) (f 30) (f 31) (f 32) (f 33) (f 34) (f 35) (f 36) (f 37) (f 38) (f 39) (f 40) (f 41) (f 42) (f 43) (f 44) (f 45) (f 46) (f 47) (f 48) (f 49) HCM.out
end Go.Proofs.YtganlldidjbpiaaGreatDoor
