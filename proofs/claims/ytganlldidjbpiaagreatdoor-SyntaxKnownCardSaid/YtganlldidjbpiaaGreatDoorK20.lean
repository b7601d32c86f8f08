/- Walks of package syntax: every. -/
import Derived.Test.YtganlldidjbpiaaGreatDoorK18
set_option linter.unusedVariables false
namespace Go.Proofs.YtganlldidjbpiaaGreatDoor
open Go.RowKit Go.Shelf

theorem all_any {α : Type} (l : List α) (P : α → Bool) : (!(l.any fun x => !(P x))) = l.all P := by
  rw [List.all_eq_not_any_not]
set_option maxRecDepth 100000 in
set_option maxHeartbeats 4000000 in
theorem every1S_c (w : World) (x : List UInt8) (g b : Nat) (P : Bool) (h : w.cell? ⟨b, 0, none⟩ = some (.func (.func g) #[] #[])) (hen : ∀ args w, (callFunc g args).run Tryz.prog w = .ok (.enter g args) w) (hP : ∀ W, Below w.heap.size w W → Calls Tryz.prog g #[.string (bs x)] W (RetB W P)) :
    Calls Tryz.prog 92 #[.string (bs x), .pointer (some ⟨b, 0, none⟩)] w (RetB w (!P)) := by
  have hlt : b < w.heap.size := World.block_lt_of_cell? _ _ h
  have HP := Lib.hid (hP w (Below.refl _ w))
  clear hP
  go_enter Tryz.func92, Tryz.ntmps92
  go_wp2_with fail
  refine HP.out.mono ?_
  rintro e w1 ⟨rfl, hb1⟩
  have HB1 := Lib.hid hb1
  clear hb1 h
  go_wp2_with fail
  go_ret
  exact ⟨rfl, HB1.out⟩
set_option maxRecDepth 100000 in
set_option maxHeartbeats 4000000 in
theorem everyS_c (D : Nat → Prop) (w : World) (v : Value) (l : List (List UInt8)) (g : Nat) (P : List UInt8 → Bool) (h : SlN D w v l) (hen : ∀ args w, (callFunc g args).run Tryz.prog w = .ok (.enter g args) w)
    (hP : ∀ x ∈ l, ∀ W, Below w.heap.size w W → Calls Tryz.prog g #[.string (bs x)] W (RetB W (P x))) :
    Calls Tryz.prog 59 #[v, .func (.func g) #[] #[]] w (RetB w (l.all P)) := by
  have hmf := run_mkf
  obtain ⟨W0, hW⟩ : ∃ W0, W0 = w.alloc (.cells #[.func (.func g) #[] #[]] 28) := ⟨_, rfl⟩
  have hb0 : Below w.heap.size w W0 := hW ▸ held_alloc (Below.refl _ w)
  have bx : Box W0 w.heap.size #[.func (.func g) #[] #[]] 28 := hW ▸ Box.new w _ _
  have HC := Lib.hid (containsFS_c D W0 v l (fun x => !(P x)) 92 #[.pointer (some ⟨w.heap.size, 0, none⟩)] (h.fx (S := fun _ => False) (Fx.of_below hb0) (fun _ _ _ e => e)) (enters_of Tryz.func92 (by kernel_rfl) rfl)
    (fun i hi W hW => every1S_c W _ g _ _ (keep_cell hW (bx.cell 0)) hen (fun W' hW' => hP _ (by rw [List.getD_eq_getElem?_getD, List.getElem?_eq_getElem hi]; exact List.getElem_mem hi) W' ((hb0.trans (hW.mono hb0.size)).trans (hW'.mono (Nat.le_trans hb0.size hW.size))))))
  have HB := Lib.hid hb0
  obtain ⟨B, hB⟩ : ∃ B, (l.any fun x => !(P x)) = B := ⟨_, rfl⟩
  rw [hB] at HC
  have HE : Hid ((!B) = l.all P) := by show _ = _; rw [← hB]; exact all_any l P
  clear bx h hP hen hb0 hB
  go_enter Tryz.func59, Tryz.ntmps59
  go_upto_region 1 with fail
  rw [← hW]
  clear hW
  go_wp2_with fail
  refine HC.out.mono ?_
  rintro e w1 ⟨rfl, hb1⟩
  have HB1 := Lib.hid (HB.out.trans (hb1.mono HB.out.size))
  clear hb1
  go_wp2_with fail
  go_ret
  exact ⟨ret_bool HE.out, HB1.out⟩
set_option maxRecDepth 100000 in
set_option maxHeartbeats 4000000 in
theorem every1C_c (D : Nat → Prop) (w : World) (c : Cl) (vn vi : Value) (g b : Nat) (P : Bool) (hc : HasC D w vn vi c) (h : w.cell? ⟨b, 0, none⟩ = some (.func (.func g) #[] #[])) (hen : ∀ args w, (callFunc g args).run Tryz.prog w = .ok (.enter g args) w) (hP : ∀ W, Below w.heap.size w W → HasC D W vn vi c → Calls Tryz.prog g #[.agg (clV c vn vi).toArray] W (RetB W P)) :
    Calls Tryz.prog 53 #[.agg (clV c vn vi).toArray, .pointer (some ⟨b, 0, none⟩)] w (RetB w (!P)) := by
  have hlt : b < w.heap.size := World.block_lt_of_cell? _ _ h
  obtain ⟨qn, cn, rfl, _, _, _⟩ := (hasC_iff.1 hc).2.1.2.shape
  obtain ⟨qi, ci, rfl, _, _, _⟩ := (hasC_iff.1 hc).2.2.shape
  obtain ⟨W0, hW⟩ : ∃ W0, W0 = w.alloc (.cells (clV c (.slice qn c.names.length cn) (.slice qi c.items.length ci)).toArray 43) := ⟨_, rfl⟩
  have hb0 : Below w.heap.size w W0 := hW ▸ held_alloc (Below.refl _ w)
  have bx : Box W0 w.heap.size (clV c (.slice qn c.names.length cn) (.slice qi c.items.length ci)).toArray 43 := hW ▸ Box.new w _ _
  unfold clV at hW bx hP ⊢
  obtain ⟨k0, k1, k2, k3, k4, k5, k6, k7⟩ := bx.cells8
  have hcf := keep_cell hb0 h
  have l0 := bx.lt
  have l1 := World.block_lt_of_cell? _ _ hcf
  simp only at l1
  have HP := Lib.hid (hP W0 hb0 (HasC.fx (S := fun _ => False) (Fx.of_below hb0) (fun _ _ _ e => e) c hc))
  have HB := Lib.hid hb0
  clear bx h hP hb0 hc
  go_enter Tryz.func53, Tryz.ntmps53
  go_upto_region 1 with fail
  rw [← hW]
  clear hW
  go_wp2_with fail
  refine HP.out.mono ?_
  rintro e w1 ⟨rfl, hb1⟩
  have HB1 := Lib.hid (HB.out.trans (hb1.mono HB.out.size))
  clear hb1 k0 k1 k2 k3 k4 k5 k6 k7 hcf
  go_wp2_with fail
  go_ret
  exact ⟨rfl, HB1.out⟩
set_option maxRecDepth 100000 in
set_option maxHeartbeats 4000000 in
theorem everyC_c (D : Nat → Prop) (w : World) (v : Value) (l : List Cl) (g : Nat) (P : Cl → Bool) (h : SlC D w v l) (hen : ∀ args w, (callFunc g args).run Tryz.prog w = .ok (.enter g args) w)
    (hP : ∀ x ∈ l, ∀ W, Below w.heap.size w W → ∀ vn vi, HasC D W vn vi x → Calls Tryz.prog g #[.agg (clV x vn vi).toArray] W (RetB W (P x))) :
    Calls Tryz.prog 28 #[v, .func (.func g) #[] #[]] w (RetB w (l.all P)) := by
  have hmf := run_mkf
  obtain ⟨W0, hW⟩ : ∃ W0, W0 = w.alloc (.cells #[.func (.func g) #[] #[]] 61) := ⟨_, rfl⟩
  have hb0 : Below w.heap.size w W0 := hW ▸ held_alloc (Below.refl _ w)
  have bx : Box W0 w.heap.size #[.func (.func g) #[] #[]] 61 := hW ▸ Box.new w _ _
  have HC := Lib.hid (containsFC_c D W0 v l (fun x => !(P x)) 53 #[.pointer (some ⟨w.heap.size, 0, none⟩)] (h.after hb0) (enters_of Tryz.func53 (by kernel_rfl) rfl)
    (fun i hi W hW vn vi hc => every1C_c D W _ vn vi g _ _ hc (keep_cell hW (bx.cell 0)) hen (fun W' hW' hc' => hP _ (by rw [List.getD_eq_getElem?_getD, List.getElem?_eq_getElem hi]; exact List.getElem_mem hi) W' ((hb0.trans (hW.mono hb0.size)).trans (hW'.mono (Nat.le_trans hb0.size hW.size))) vn vi hc')))
  have HB := Lib.hid hb0
  obtain ⟨B, hB⟩ : ∃ B, (l.any fun x => !(P x)) = B := ⟨_, rfl⟩
  rw [hB] at HC
  have HE : Hid ((!B) = l.all P) := by show _ = _; rw [← hB]; exact all_any l P
  clear bx h hP hen hb0 hB
  go_enter Tryz.func28, Tryz.ntmps28
  go_upto_region 1 with fail
  rw [← hW]
  clear hW
  go_wp2_with fail
  refine HC.out.mono ?_
  rintro e w1 ⟨rfl, hb1⟩
  have HB1 := Lib.hid (HB.out.trans (hb1.mono HB.out.size))
  clear hb1
  go_wp2_with fail
  go_ret
  exact ⟨ret_bool HE.out, HB1.out⟩
end Go.Proofs.YtganlldidjbpiaaGreatDoor
