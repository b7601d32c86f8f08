/- The walk of RatioOps: Add, Sub, Mul, Div and Cmp return what the reference returns. -/
import Derived.Test.YtaojdlcailpheaaQM5
import Derived.Test.YtaojdlcailpheaaQVF
import Derived.Test.YtaojdlcailpheaaQV16
import Derived.Test.YtaojdlcailpheaaQGk
set_option linter.unusedVariables false
namespace Go.Proofs.Ytaojdlcailpheaa
open Go.RowKit

/-- The functions of the two tables. -/
def fvP (i : Nat) : Value := match i with
  | 0 => .func (.func 25) #[] #[]
  | 1 => .func (.func 26) #[] #[]
  | 2 => .func (.func 27) #[] #[]
  | _ => .func (.func 28) #[] #[]
def fvR (i : Nat) : Value := match i with
  | 0 => .func (.func 29) #[] #[]
  | 1 => .func (.func 30) #[] #[]
  | 2 => .func (.func 31) #[] #[]
  | _ => .func (.func 32) #[] #[]
noncomputable def opT (i : Nat) (x y : F) : F × Int := match i with
  | 0 => opF sumN x y
  | 1 => opF subN x y
  | 2 => opF mulN x y
  | _ => opF divN x y
theorem four_cells {w : World} {b : Nat} {t : TypeId} {cs : Array Value} (h : Box w b cs t) (f : Nat → Value) (hc : cs = #[f 0, f 1, f 2, f 3]) (i : Nat) (hi : i < 4) : w.cell? ⟨b, i, none⟩ = some (f i) := by
  subst hc
  match i, hi with
  | 0, _ => exact h.cell 0
  | 1, _ => exact h.cell 1
  | 2, _ => exact h.cell 2
  | 3, _ => exact h.cell 3

set_option maxRecDepth 100000 in
set_option maxHeartbeats 16000000 in
theorem ops_walk (w : World) (v u : Value) (x y : F) (h : IsFA w v x) (k : IsFA w u y) :
    Calls Try.prog 4 #[v, u] w fun e w' => e = .returned (.bool true) ∧ Below w.heap.size w w' := by
  obtain ⟨va, vb, rfl, h1, h2⟩ := h
  obtain ⟨p, cp, rfl, hp1, hp2⟩ := h1.shape
  obtain ⟨q, cq, rfl, hq1, hq2⟩ := h2.shape
  obtain ⟨vc, vd, rfl, h3, h4⟩ := k
  obtain ⟨p', cp', rfl, hp3, hp4⟩ := h3.shape
  obtain ⟨q', cq', rfl, hq3, hq4⟩ := h4.shape
  have hA : IsFA w (.agg #[.bool x.neg, .slice p x.num.length cp, .slice q x.den.length cq]) x := ⟨_, _, rfl, h1, h2⟩
  have hB : IsFA w (.agg #[.bool y.neg, .slice p' y.num.length cp', .slice q' y.den.length cq']) y := ⟨_, _, rfl, h3, h4⟩
  obtain ⟨W0, hW, bx, by', hsz, hb0⟩ := start2 w #[.bool x.neg, .slice p x.num.length cp, .slice q x.den.length cq] #[.bool y.neg, .slice p' y.num.length cp', .slice q' y.den.length cq'] 25
  have HA := Lib.hid (hA.after hb0)
  have HA2 := Lib.hid (hB.after hb0)
  have HB0 := Lib.hid hb0
  have BX := Lib.hid bx
  have BY := Lib.hid by'
  clear h1 h2 h3 h4 hA hB hb0 bx by' hsz
  obtain ⟨X, hX⟩ : ∃ X, cut40 x = X := ⟨_, rfl⟩
  have HX := Lib.hid hX
  have HCX : Hid (cut40 X = X) := by show _ = _; rw [← HX.out, cut40_idem]
  obtain ⟨Y, hY⟩ : ∃ Y, cut40 y = Y := ⟨_, rfl⟩
  have HY := Lib.hid hY
  have HCY : Hid (cut40 Y = Y) := by show _ = _; rw [← HY.out, cut40_idem]
  clear hX hY
  go_enter Try.func4, Try.ntmps4
  go_upto_region 1 with fail
  rw [← hW]
  clear hW
  refine wp_region_gj (J := GJ _ (fun _ => SV (fun k => match k with | 1 => some X | 3 => some Y | _ => none) (fun k => match k with | 0 => some (.agg #[.bool x.neg, .slice p x.num.length cp, .slice q x.den.length cq]) | 2 => some (.agg #[.bool y.neg, .slice p' y.num.length cp', .slice q' y.den.length cq']) | _ => none)) (C2 W0 w.heap.size (w.heap.size + 1) X Y) _) (by kernel_rfl) ?_ ?_ (GJ.start C2.start)
  · intro listed a w9 i hr hj
    obtain ⟨hi12, hun, _, _, _⟩ := ready_mem hr
    have h12 : i ∈ List.range 6 := List.mem_range.2 hi12
    simp only [List.range, List.range.loop, List.mem_cons, List.not_mem_nil, or_false] at h12
    obtain ⟨f, rfl, hcm, hf⟩ := hj.opened [18, 19, 20, 21] (by kernel_rfl)
    have hcm : C2 W0 w.heap.size (w.heap.size + 1) X Y listed f w9 := hcm
    rcases h12 with rfl | rfl | rfl | rfl | rfl | rfl
    · have n4 : ¬ up listed 4 := fun h => not_up hun (hj.closed 4 0 h (by kernel_rfl))
      have bw := hcm.1 n4
      have bxw := BX.out.after bw
      have y0 := (Box.cells3 bxw).1
      have y1 := (Box.cells3 bxw).2.1
      have y2 := (Box.cells3 bxw).2.2
      have yl := bxw.lt
      clear bxw
      refine GJ.op hj (by kernel_rfl) hr rfl [18, 19, 20, 21] (by kernel_rfl) (fun K hK => ?_)
      simp only [Act.put, List.foldl_cons, List.foldl_nil, List.setIfInBounds_toArray, List.set_cons_zero, List.set_cons_succ] at hK ⊢
      clear hj hf
      go_simp
      exact hK _ _ (fun k v _ _ h => h.keep (Below.refl _ _)) (fun t ht => SV.eq rfl rfl) (hcm.keep (Below.refl _ _) (by omega) (by omega))
    · have n4 : ¬ up listed 4 := fun h => not_up hun (hj.closed 4 1 h (by kernel_rfl))
      have bw := hcm.1 n4
      have e1 : f 18 = .agg #[.bool x.neg, .slice p x.num.length cp, .slice q x.den.length cq] := (hf 0 _ _ rfl rfl (up_dep hr (by kernel_rfl))).2 _ rfl
      refine GJ.op hj (by kernel_rfl) hr rfl [18, 19, 20, 21] (by kernel_rfl) (fun K hK => ?_)
      simp only [Act.put, List.foldl_cons, List.foldl_nil, List.setIfInBounds_toArray, List.set_cons_zero, List.set_cons_succ] at hK ⊢
      clear hj hf
      rw [e1] at hK ⊢
      clear e1
      go_simp
      refine (own40_a w9 _ x (HA.out.after bw)).mono ?_
      rw [HX.out]
      rintro e w10 ⟨v10, rfl, hv10, hb10⟩
      exact hK _ _ (fun k v _ _ h => h.keep hb10) (fun t ht => SV.isF rfl rfl hv10) (hcm.keep hb10 (by omega) (by omega))
    · have n4 : ¬ up listed 4 := fun h => not_up hun (hj.closed 3 2 (hj.closed 4 3 h (by kernel_rfl)) (by kernel_rfl))
      have bw := hcm.1 n4
      have bxw := BY.out.after bw
      have y0 := (Box.cells3 bxw).1
      have y1 := (Box.cells3 bxw).2.1
      have y2 := (Box.cells3 bxw).2.2
      have yl := bxw.lt
      clear bxw
      refine GJ.op hj (by kernel_rfl) hr rfl [18, 19, 20, 21] (by kernel_rfl) (fun K hK => ?_)
      simp only [Act.put, List.foldl_cons, List.foldl_nil, List.setIfInBounds_toArray, List.set_cons_zero, List.set_cons_succ] at hK ⊢
      clear hj hf
      go_simp
      exact hK _ _ (fun k v _ _ h => h.keep (Below.refl _ _)) (fun t ht => SV.eq rfl rfl) (hcm.keep (Below.refl _ _) (by omega) (by omega))
    · have n4 : ¬ up listed 4 := fun h => not_up hun (hj.closed 4 3 h (by kernel_rfl))
      have bw := hcm.1 n4
      have e1 : f 20 = .agg #[.bool y.neg, .slice p' y.num.length cp', .slice q' y.den.length cq'] := (hf 2 _ _ rfl rfl (up_dep hr (by kernel_rfl))).2 _ rfl
      refine GJ.op hj (by kernel_rfl) hr rfl [18, 19, 20, 21] (by kernel_rfl) (fun K hK => ?_)
      simp only [Act.put, List.foldl_cons, List.foldl_nil, List.setIfInBounds_toArray, List.set_cons_zero, List.set_cons_succ] at hK ⊢
      clear hj hf
      rw [e1] at hK ⊢
      clear e1
      go_simp
      refine (own40_a w9 _ y (HA2.out.after bw)).mono ?_
      rw [HY.out]
      rintro e w10 ⟨v10, rfl, hv10, hb10⟩
      exact hK _ _ (fun k v _ _ h => h.keep hb10) (fun t ht => SV.isF rfl rfl hv10) (hcm.keep hb10 (by omega) (by omega))
    · have s1 : IsF w9 (f 19) X := (hf 1 _ _ rfl rfl (up_dep hr (by kernel_rfl))).1 _ rfl
      have bw := hcm.1 (not_up hun)
      have n4 : ¬ up listed 4 := not_up hun
      have n5 : ¬ up listed 5 := fun h => not_up hun (hj.closed 5 4 h (by kernel_rfl))
      have bxw := BX.out.after bw
      obtain ⟨ua, ub, e1, h1, h2⟩ := s1
      obtain ⟨pa, ca, rfl, _, _⟩ := h1.shape
      obtain ⟨pb, cb, rfl, _, _⟩ := h2.shape
      have hsz7 := hj.lsize
      have hlt : 4 < listed.size := by rw [hsz7]; decide
      refine GJ.op hj (by kernel_rfl) hr rfl [18, 19, 20, 21] (by kernel_rfl) (fun K hK => ?_)
      simp only [Act.put, List.foldl_cons, List.foldl_nil, List.setIfInBounds_toArray, List.set_cons_zero, List.set_cons_succ] at hK ⊢
      clear hj hf
      obtain ⟨zb, hzb⟩ : ∃ z, f 19 = z := ⟨_, rfl⟩
      rw [hzb] at hK ⊢ e1
      subst e1
      clear hzb
      have y0 := (Box.cells3 bxw).1
      have y1 := (Box.cells3 bxw).2.1
      have y2 := (Box.cells3 bxw).2.2
      have yl := bxw.lt
      have q0 := bxw.frozen 0
      have q1 := bxw.frozen 1
      have q2 := bxw.frozen 2
      have BXW := Lib.hid bxw
      clear bxw
      go_simp
      exact hK undef _ (fun k v _ _ h => h.fx (fx_set3 _ _ _ _) (Box.noT BXW.out)) (fun t ht => by cases ht) (hcm.put4 n4 n5 hlt BXW.out h1 h2)
    · have s1 : IsF w9 (f 21) Y := (hf 3 _ _ rfl rfl (up_dep hr (by kernel_rfl))).1 _ rfl
      have u4 : up listed 4 := up_dep hr (by kernel_rfl)
      have n5 : ¬ up listed 5 := not_up hun
      have bxw := Box.fx BY.out (hcm.2.1 u4 n5).1 (by omega)
      obtain ⟨ua, ub, e1, h1, h2⟩ := s1
      obtain ⟨pa, ca, rfl, _, _⟩ := h1.shape
      obtain ⟨pb, cb, rfl, _, _⟩ := h2.shape
      have hsz7 := hj.lsize
      have hlt : 5 < listed.size := by rw [hsz7]; decide
      refine GJ.op hj (by kernel_rfl) hr rfl [18, 19, 20, 21] (by kernel_rfl) (fun K hK => ?_)
      simp only [Act.put, List.foldl_cons, List.foldl_nil, List.setIfInBounds_toArray, List.set_cons_zero, List.set_cons_succ] at hK ⊢
      clear hj hf
      obtain ⟨zb, hzb⟩ : ∃ z, f 21 = z := ⟨_, rfl⟩
      rw [hzb] at hK ⊢ e1
      subst e1
      clear hzb
      have y0 := (Box.cells3 bxw).1
      have y1 := (Box.cells3 bxw).2.1
      have y2 := (Box.cells3 bxw).2.2
      have yl := bxw.lt
      have q0 := bxw.frozen 0
      have q1 := bxw.frozen 1
      have q2 := bxw.frozen 2
      have BXW := Lib.hid bxw
      clear bxw
      go_simp
      exact hK undef _ (fun k v _ _ h => h.fx (fx_set3 _ _ _ _) (Box.noT BXW.out)) (fun t ht => by cases ht) (hcm.put5 u4 n5 hlt (by omega) BXW.out h1 h2)
  · intro listed a w10 hr hj
    have hu : ∀ k, k < 6 → up listed k := fun k hk => all_up (by kernel_rfl) hj.lsize hr k hk
    obtain ⟨f, rfl, hcm, hf⟩ := hj.opened [18, 19, 20, 21] (by kernel_rfl)
    replace hcm : C2 W0 w.heap.size (w.heap.size + 1) X Y listed f w10 := hcm
    obtain ⟨hfx, hv1, hv2⟩ := hcm.2.2 (hu 5 (by omega))
    have HV1 := Lib.hid hv1
    have HV2 := Lib.hid hv2
    have HB : Hid (Below w.heap.size w w10) := HB0.out.trans (hfx.toBelow HB0.out.size (fun g e => by rcases e with e | e <;> omega))
    clear hf hj hr hu hfx hv1 hv2 hcm HA HA2 HX HY BX BY HB0
    simp only [List.foldl_cons, List.foldl_nil, List.setIfInBounds_toArray, List.set_cons_zero, List.set_cons_succ]
    generalize f 18 = g18
    generalize f 19 = g19
    generalize f 20 = g20
    generalize f 21 = g21
    clear f
    obtain ⟨va, vb, hbx, h1, h2⟩ := HV1.out
    obtain ⟨pX, mX, rfl, _, _⟩ := h1.shape
    obtain ⟨qX, nX, rfl, _, _⟩ := h2.shape
    have CX := Lib.hid hbx
    have FX := Lib.hid (IsF.at_ h1 h2)
    clear hbx h1 h2
    obtain ⟨va, vb, hbx, h1, h2⟩ := HV2.out
    obtain ⟨pY, mY, rfl, _, _⟩ := h1.shape
    obtain ⟨qY, nY, rfl, _, _⟩ := h2.shape
    have CY := Lib.hid hbx
    have FY := Lib.hid (IsF.at_ h1 h2)
    clear hbx h1 h2
    go_upto_region 2 with fail
    refine wp_region_gj (J := GJ _ (fun _ => SV (fun κ => match κ with | 1 => some (X) | 3 => some (Y) | _ => none) (fun κ => match κ with | 0 => some (.agg #[.bool (X).neg, .slice pX (X).num.length mX, .slice qX (X).den.length nX]) | 2 => some (.agg #[.bool (Y).neg, .slice pY (Y).num.length mY, .slice qY (Y).den.length nY]) | _ => none)) (CV w10 [⟨4, 6, X, 5⟩, ⟨5, 7, Y, 6⟩]) _) (by kernel_rfl) ?_ ?_ (GJ.start CV.start)
    · intro listed a w9 i hr hj
      obtain ⟨hi12, hun, _, _, _⟩ := ready_mem hr
      have h12 : i ∈ List.range 8 := List.mem_range.2 hi12
      simp only [List.range, List.range.loop, List.mem_cons, List.not_mem_nil, or_false] at h12
      obtain ⟨f, rfl, hcm, hf⟩ := hj.opened [22, 23, 24, 25, 5, 6] (by kernel_rfl)
      have hcm : CV w10 [⟨4, 6, X, 5⟩, ⟨5, 7, Y, 6⟩] listed f w9 := hcm
      rcases h12 with rfl | rfl | rfl | rfl | rfl | rfl | rfl | rfl
      · obtain ⟨k0, k1, k2⟩ := (CX.out.after hcm.1).cells3
        have klt := (CX.out.after hcm.1).lt
        refine GJ.op hj (by kernel_rfl) hr rfl [22, 23, 24, 25, 5, 6] (by kernel_rfl) (fun K hK => ?_)
        simp only [Act.put, List.foldl_cons, List.foldl_nil, List.setIfInBounds_toArray, List.set_cons_zero, List.set_cons_succ] at hK ⊢
        clear hj hf
        go_simp
        exact hK _ _ (fun k v _ _ h => h.keep (Below.refl _ _)) (fun t ht => SV.eq rfl rfl) (hcm.keep (Below.refl _ _) (fun e he => by simp only [List.mem_cons, List.not_mem_nil, or_false] at he; rcases he with rfl | rfl <;> (first | rfl | simp)) (fun e he => by simp only [List.mem_cons, List.not_mem_nil, or_false] at he; rcases he with rfl | rfl <;> (first | rfl | simp)))
      · have e1 : f 22 = .agg #[.bool (X).neg, .slice pX (X).num.length mX, .slice qX (X).den.length nX] := (hf 0 _ _ rfl rfl (up_dep hr (by kernel_rfl))).2 _ rfl
        refine GJ.op hj (by kernel_rfl) hr rfl [22, 23, 24, 25, 5, 6] (by kernel_rfl) (fun K hK => ?_)
        simp only [Act.put, List.foldl_cons, List.foldl_nil, List.setIfInBounds_toArray, List.set_cons_zero, List.set_cons_succ] at hK ⊢
        clear hj hf
        rw [e1] at hK ⊢
        clear e1
        go_simp
        refine (own_is w9 _ X HCX.out (FX.out.after hcm.1)).mono ?_
        rintro e w10 ⟨v10, rfl, hv10, hb10⟩
        exact hK _ _ (fun k v _ _ h => h.keep hb10) (fun t ht => SV.isF rfl rfl hv10) (hcm.keep hb10 (fun e he => by simp only [List.mem_cons, List.not_mem_nil, or_false] at he; rcases he with rfl | rfl <;> (first | rfl | simp)) (fun e he => by simp only [List.mem_cons, List.not_mem_nil, or_false] at he; rcases he with rfl | rfl <;> (first | rfl | simp)))
      · obtain ⟨k0, k1, k2⟩ := (CY.out.after hcm.1).cells3
        have klt := (CY.out.after hcm.1).lt
        refine GJ.op hj (by kernel_rfl) hr rfl [22, 23, 24, 25, 5, 6] (by kernel_rfl) (fun K hK => ?_)
        simp only [Act.put, List.foldl_cons, List.foldl_nil, List.setIfInBounds_toArray, List.set_cons_zero, List.set_cons_succ] at hK ⊢
        clear hj hf
        go_simp
        exact hK _ _ (fun k v _ _ h => h.keep (Below.refl _ _)) (fun t ht => SV.eq rfl rfl) (hcm.keep (Below.refl _ _) (fun e he => by simp only [List.mem_cons, List.not_mem_nil, or_false] at he; rcases he with rfl | rfl <;> (first | rfl | simp)) (fun e he => by simp only [List.mem_cons, List.not_mem_nil, or_false] at he; rcases he with rfl | rfl <;> (first | rfl | simp)))
      · have e1 : f 24 = .agg #[.bool (Y).neg, .slice pY (Y).num.length mY, .slice qY (Y).den.length nY] := (hf 2 _ _ rfl rfl (up_dep hr (by kernel_rfl))).2 _ rfl
        refine GJ.op hj (by kernel_rfl) hr rfl [22, 23, 24, 25, 5, 6] (by kernel_rfl) (fun K hK => ?_)
        simp only [Act.put, List.foldl_cons, List.foldl_nil, List.setIfInBounds_toArray, List.set_cons_zero, List.set_cons_succ] at hK ⊢
        clear hj hf
        rw [e1] at hK ⊢
        clear e1
        go_simp
        refine (own_is w9 _ Y HCY.out (FY.out.after hcm.1)).mono ?_
        rintro e w10 ⟨v10, rfl, hv10, hb10⟩
        exact hK _ _ (fun k v _ _ h => h.keep hb10) (fun t ht => SV.isF rfl rfl hv10) (hcm.keep hb10 (fun e he => by simp only [List.mem_cons, List.not_mem_nil, or_false] at he; rcases he with rfl | rfl <;> (first | rfl | simp)) (fun e he => by simp only [List.mem_cons, List.not_mem_nil, or_false] at he; rcases he with rfl | rfl <;> (first | rfl | simp)))
      · have nst : ¬ up listed 6 := fun h => not_up hun (hj.closed 6 4 h (by kernel_rfl))
        refine GJ.op hj (by kernel_rfl) hr rfl [22, 23, 24, 25, 5, 6] (by kernel_rfl) (fun K hK => ?_)
        simp only [Act.put, List.foldl_cons, List.foldl_nil, List.setIfInBounds_toArray, List.set_cons_zero, List.set_cons_succ] at hK ⊢
        clear hj hf
        go_simp
        exact hK _ _ (fun k v _ _ h => h.keep (held_alloc (Below.refl _ _))) (fun t ht => SV.any rfl rfl) (hcm.new ⟨4, 6, X, 5⟩ (by simp) rfl (fun e he => by simp only [List.mem_cons, List.not_mem_nil, or_false] at he; rcases he with rfl | rfl <;> (first | (intro _; rfl) | simp)) (fun e he => by simp only [List.mem_cons, List.not_mem_nil, or_false] at he; rcases he with rfl | rfl <;> (first | (intro _; rfl) | simp)) (fun e he => by simp only [List.mem_cons, List.not_mem_nil, or_false] at he; rcases he with rfl | rfl <;> (first | rfl | simp)) nst rfl (fun e he => by simp only [List.mem_cons, List.not_mem_nil, or_false] at he; rcases he with rfl | rfl <;> (first | (intro _; rfl) | simp)))
      · have nst : ¬ up listed 7 := fun h => not_up hun (hj.closed 7 5 h (by kernel_rfl))
        refine GJ.op hj (by kernel_rfl) hr rfl [22, 23, 24, 25, 5, 6] (by kernel_rfl) (fun K hK => ?_)
        simp only [Act.put, List.foldl_cons, List.foldl_nil, List.setIfInBounds_toArray, List.set_cons_zero, List.set_cons_succ] at hK ⊢
        clear hj hf
        go_simp
        exact hK _ _ (fun k v _ _ h => h.keep (held_alloc (Below.refl _ _))) (fun t ht => SV.any rfl rfl) (hcm.new ⟨5, 7, Y, 6⟩ (by simp) rfl (fun e he => by simp only [List.mem_cons, List.not_mem_nil, or_false] at he; rcases he with rfl | rfl <;> (first | (intro _; rfl) | simp)) (fun e he => by simp only [List.mem_cons, List.not_mem_nil, or_false] at he; rcases he with rfl | rfl <;> (first | (intro _; rfl) | simp)) (fun e he => by simp only [List.mem_cons, List.not_mem_nil, or_false] at he; rcases he with rfl | rfl <;> (first | rfl | simp)) nst rfl (fun e he => by simp only [List.mem_cons, List.not_mem_nil, or_false] at he; rcases he with rfl | rfl <;> (first | (intro _; rfl) | simp)))
      · have hcl := hj.closed
        have hsz := hj.lsize
        have hlt : 6 < listed.size := by rw [hsz]; decide
        have hua : ∀ e ∈ ([⟨4, 6, X, 5⟩, ⟨5, 7, Y, 6⟩] : List VE), up listed e.al := fun e he => by simp only [List.mem_cons, List.not_mem_nil, or_false] at he; rcases he with rfl | rfl <;> exact up_dep hr (by kernel_rfl)
        have s1 : IsF w9 (f 23) (X) := (hf 1 _ _ rfl rfl (up_dep hr (by kernel_rfl))).1 _ rfl
        obtain ⟨blk, e1, hbw, hbl, hyes, hnot⟩ := hcm.2.1 ⟨4, 6, X, 5⟩ (by simp) (up_dep hr (by kernel_rfl))
        have hz : zeroB w9 blk := hnot (not_up hun)
        obtain ⟨va, vb, e2, h1, h2⟩ := s1
        obtain ⟨pa, ca, rfl, _, _⟩ := h1.shape
        obtain ⟨pb, cb, rfl, _, _⟩ := h2.shape
        refine GJ.op hj (by kernel_rfl) hr rfl [22, 23, 24, 25, 5, 6] (by kernel_rfl) (fun K hK => ?_)
        simp only [Act.put, List.foldl_cons, List.foldl_nil, List.setIfInBounds_toArray, List.set_cons_zero, List.set_cons_succ] at hK ⊢
        clear hj hf
        obtain ⟨z0, z1, z2⟩ := Box.cells3 hz
        have q0 := Box.frozen hz 0
        have q1 := Box.frozen hz 1
        have q2 := Box.frozen hz 2
        obtain ⟨za, hza⟩ : ∃ z, f 5 = z := ⟨_, rfl⟩
        obtain ⟨zb, hzb⟩ : ∃ z, f 23 = z := ⟨_, rfl⟩
        rw [hza, hzb] at hK ⊢
        simp only at e1
        rw [hza] at e1
        rw [hzb] at e2
        subst e1 e2
        clear hzb
        go_simp
        exact hK undef _ (fun k v _ _ h => h.fx (fx_set3 blk _ _ _) (Box.noT hz)) (fun t ht => by cases ht) (hcm.put ⟨4, 6, X, 5⟩ (by simp) rfl (fun e he => by simp only [List.mem_cons, List.not_mem_nil, or_false] at he; rcases he with rfl | rfl <;> (first | (intro _; rfl) | simp)) (fun e he => by simp only [List.mem_cons, List.not_mem_nil, or_false] at he; rcases he with rfl | rfl <;> (first | (intro _; rfl) | simp)) hlt hua hza hz ⟨_, _, rfl, h1, h2⟩ (fun e he => by simp only [List.mem_cons, List.not_mem_nil, or_false] at he; rcases he with rfl | rfl <;> (first | rfl | exact hza.symm)))
      · have hcl := hj.closed
        have hsz := hj.lsize
        have hlt : 7 < listed.size := by rw [hsz]; decide
        have hua : ∀ e ∈ ([⟨4, 6, X, 5⟩, ⟨5, 7, Y, 6⟩] : List VE), up listed e.al := fun e he => by simp only [List.mem_cons, List.not_mem_nil, or_false] at he; rcases he with rfl | rfl <;> exact up_dep hr (by kernel_rfl)
        have s1 : IsF w9 (f 25) (Y) := (hf 3 _ _ rfl rfl (up_dep hr (by kernel_rfl))).1 _ rfl
        obtain ⟨blk, e1, hbw, hbl, hyes, hnot⟩ := hcm.2.1 ⟨5, 7, Y, 6⟩ (by simp) (up_dep hr (by kernel_rfl))
        have hz : zeroB w9 blk := hnot (not_up hun)
        obtain ⟨va, vb, e2, h1, h2⟩ := s1
        obtain ⟨pa, ca, rfl, _, _⟩ := h1.shape
        obtain ⟨pb, cb, rfl, _, _⟩ := h2.shape
        refine GJ.op hj (by kernel_rfl) hr rfl [22, 23, 24, 25, 5, 6] (by kernel_rfl) (fun K hK => ?_)
        simp only [Act.put, List.foldl_cons, List.foldl_nil, List.setIfInBounds_toArray, List.set_cons_zero, List.set_cons_succ] at hK ⊢
        clear hj hf
        obtain ⟨z0, z1, z2⟩ := Box.cells3 hz
        have q0 := Box.frozen hz 0
        have q1 := Box.frozen hz 1
        have q2 := Box.frozen hz 2
        obtain ⟨za, hza⟩ : ∃ z, f 6 = z := ⟨_, rfl⟩
        obtain ⟨zb, hzb⟩ : ∃ z, f 25 = z := ⟨_, rfl⟩
        rw [hza, hzb] at hK ⊢
        simp only at e1
        rw [hza] at e1
        rw [hzb] at e2
        subst e1 e2
        clear hzb
        go_simp
        exact hK undef _ (fun k v _ _ h => h.fx (fx_set3 blk _ _ _) (Box.noT hz)) (fun t ht => by cases ht) (hcm.put ⟨5, 7, Y, 6⟩ (by simp) rfl (fun e he => by simp only [List.mem_cons, List.not_mem_nil, or_false] at he; rcases he with rfl | rfl <;> (first | (intro _; rfl) | simp)) (fun e he => by simp only [List.mem_cons, List.not_mem_nil, or_false] at he; rcases he with rfl | rfl <;> (first | (intro _; rfl) | simp)) hlt hua hza hz ⟨_, _, rfl, h1, h2⟩ (fun e he => by simp only [List.mem_cons, List.not_mem_nil, or_false] at he; rcases he with rfl | rfl <;> (first | rfl | exact hza.symm)))
    · intro listed a w11 hr hj
      have hu : ∀ k, k < 8 → up listed k := fun k hk => all_up (by kernel_rfl) hj.lsize hr k hk
      obtain ⟨f, rfl, hcm, hf⟩ := hj.opened [22, 23, 24, 25, 5, 6] (by kernel_rfl)
      obtain ⟨BA, e5, ga, va'⟩ := hcm.done ⟨4, 6, X, 5⟩ (by simp) (hu 4 (by omega)) (hu 6 (by omega))
      obtain ⟨BB, e6, gb, vb'⟩ := hcm.done ⟨5, 7, Y, 6⟩ (by simp) (hu 5 (by omega)) (hu 7 (by omega))
      have hb11 : Below w10.heap.size w10 w11 := hcm.1
      replace HB : Hid (Below w.heap.size w w11) := HB.out.trans (hb11.mono HB.out.size)
      replace CX := Lib.hid (CX.out.after hb11)
      replace CY := Lib.hid (CY.out.after hb11)
      replace FX := Lib.hid (FX.out.after hb11)
      replace FY := Lib.hid (FY.out.after hb11)
      have HVA := Lib.hid va'
      have HVB := Lib.hid vb'
      simp only at e5 e6 HVA HVB
      clear hcm hf hj hr hu va' vb' ga gb hb11
      simp only [List.foldl_cons, List.foldl_nil, List.setIfInBounds_toArray, List.set_cons_zero, List.set_cons_succ]
      rw [e5, e6]
      clear e5 e6
      generalize f 22 = g22
      generalize f 23 = g23
      generalize f 24 = g24
      generalize f 25 = g25
      clear f
      obtain ⟨va, vb, hbx, h1, h2⟩ := HVA.out
      obtain ⟨pA, mA, rfl, _, _⟩ := h1.shape
      obtain ⟨qA, nA, rfl, _, _⟩ := h2.shape
      have CA := Lib.hid hbx
      have FA := Lib.hid (IsF.at_ h1 h2)
      clear hbx h1 h2
      obtain ⟨va, vb, hbx, h1, h2⟩ := HVB.out
      obtain ⟨pB, mB, rfl, _, _⟩ := h1.shape
      obtain ⟨qB, nB, rfl, _, _⟩ := h2.shape
      have CB := Lib.hid hbx
      have FB := Lib.hid (IsF.at_ h1 h2)
      clear hbx h1 h2
      clear HVA HVB
      go_upto_region 5 with fail
      obtain ⟨W2, hW2⟩ : ∃ W2, W2 = (w11.alloc (.cells #[.func (.func 25) #[] #[], .func (.func 26) #[] #[], .func (.func 27) #[] #[], .func (.func 28) #[] #[]] 37)).alloc (.cells #[.func (.func 29) #[] #[], .func (.func 30) #[] #[], .func (.func 31) #[] #[], .func (.func 32) #[] #[]] 37) := ⟨_, rfl⟩
      have hb12 := below_same hW2
      obtain ⟨hb12, BT, BU⟩ := after_new2 hb12
      rw [← hW2]
      clear hW2
      have KT : Hid (∀ i, i < 4 → W2.cell? ⟨w11.heap.size, i, none⟩ = some (fvP i)) := fun i hi => four_cells BT fvP rfl i hi
      have KU : Hid (∀ i, i < 4 → W2.cell? ⟨w11.heap.size + 1, i, none⟩ = some (fvR i)) := fun i hi => four_cells BU fvR rfl i hi
      have LT := BT.lt
      have LU := BU.lt
      replace CX := Lib.hid (CX.out.after hb12)
      replace FX := Lib.hid (FX.out.after hb12)
      replace CY := Lib.hid (CY.out.after hb12)
      replace FY := Lib.hid (FY.out.after hb12)
      replace CA := Lib.hid (CA.out.after hb12)
      replace FA := Lib.hid (FA.out.after hb12)
      replace CB := Lib.hid (CB.out.after hb12)
      replace FB := Lib.hid (FB.out.after hb12)
      replace HB := Lib.hid (HB.out.trans (hb12.mono HB.out.size))
      clear hb12 BT BU
      go_wp2_with fail
      go_loopg [9] 4 (fun g t wx => ∃ i : Nat, i ≤ 4 ∧ g = 4 - i ∧ t = .int .i64 (i : Int) ∧ Hid (Below W2.heap.size W2 wx))
      case atStart => exact ⟨0, by omega, rfl, rfl, Below.refl _ _⟩
      case round =>
        obtain ⟨i, hi4, rfl, rfl, hbl⟩ := hrel
        by_cases hlt : i < 4
        · have hdl : decide ((i : Int) < 4) = true := decide_eq_true (by omega)
          have kT := KT.out i hlt
          have kU := KU.out i hlt
          have KTI := Lib.hid kT
          have KUI := Lib.hid kU
          clear kT kU
          obtain ⟨o, ho⟩ : ∃ o, opT i X Y = o := ⟨_, rfl⟩
          have HO := Lib.hid ho
          clear ho
          go_upto_region 8 with fail
          replace CX := Lib.hid (CX.out.after hbl.out)
          replace FX := Lib.hid (FX.out.after hbl.out)
          replace CY := Lib.hid (CY.out.after hbl.out)
          replace FY := Lib.hid (FY.out.after hbl.out)
          replace CA := Lib.hid (CA.out.after hbl.out)
          replace FA := Lib.hid (FA.out.after hbl.out)
          replace CB := Lib.hid (CB.out.after hbl.out)
          replace FB := Lib.hid (FB.out.after hbl.out)
          have LTr := Nat.lt_of_lt_of_le LT hbl.out.size
          have LUr := Nat.lt_of_lt_of_le LU hbl.out.size
          replace KTI := Lib.hid (keep_cell hbl.out KTI.out)
          replace KUI := Lib.hid (keep_cell hbl.out KUI.out)
          refine wp_region_gj (J := GJ _ (fun _ => SX (fun κ => match κ with | 8 => some (o.1) | _ => none) (fun κ => match κ with | 0 => some (.slice (some ⟨w11.heap.size, 0, none⟩) 4 4) | 1 => some (.int .i64 (i : Int)) | 2 => some (.pointer (some ⟨w11.heap.size, i, none⟩)) | 3 => some (fvP i) | 4 => some (.agg #[.bool (X).neg, .slice pX (X).num.length mX, .slice qX (X).den.length nX]) | 5 => some (.agg #[.bool (Y).neg, .slice pY (Y).num.length mY, .slice qY (Y).den.length nY]) | 9 => some (.int .i64 o.2) | 12 => some (.int .i64 o.2) | _ => none) (fun κ => match κ with | 6 => some (o) | 7 => some (o) | _ => none)) (CV wr [⟨10, 11, o.1, 10⟩]) _) (by kernel_rfl) ?_ ?_ (GJ.start CV.start)
          · intro listed a w9 i hr hj
            obtain ⟨hi12, hun, _, _, _⟩ := ready_mem hr
            have h12 : i ∈ List.range 13 := List.mem_range.2 hi12
            simp only [List.range, List.range.loop, List.mem_cons, List.not_mem_nil, or_false] at h12
            obtain ⟨f, rfl, hcm, hf⟩ := hj.opened [35, 36, 37, 38, 39, 40, 41, 34, 42, 43, 10, 11] (by kernel_rfl)
            have hcm : CV wr [⟨10, 11, o.1, 10⟩] listed f w9 := hcm
            rcases h12 with rfl | rfl | rfl | rfl | rfl | rfl | rfl | rfl | rfl | rfl | rfl | rfl | rfl
            · refine GJ.op hj (by kernel_rfl) hr rfl [35, 36, 37, 38, 39, 40, 41, 34, 42, 43, 10, 11] (by kernel_rfl) (fun K hK => ?_)
              simp only [Act.put, List.foldl_cons, List.foldl_nil, List.setIfInBounds_toArray, List.set_cons_zero, List.set_cons_succ] at hK ⊢
              clear hj hf
              go_simp
              exact hK _ _ (fun k v _ _ h => h.keep (Below.refl _ _)) (fun t ht => SX.eq rfl rfl rfl) (hcm.keep (Below.refl _ _) (fun e he => by simp only [List.mem_cons, List.not_mem_nil, or_false] at he; rcases he with rfl <;> (first | rfl | simp)) (fun e he => by simp only [List.mem_cons, List.not_mem_nil, or_false] at he; rcases he with rfl <;> (first | rfl | simp)))
            · refine GJ.op hj (by kernel_rfl) hr rfl [35, 36, 37, 38, 39, 40, 41, 34, 42, 43, 10, 11] (by kernel_rfl) (fun K hK => ?_)
              simp only [Act.put, List.foldl_cons, List.foldl_nil, List.setIfInBounds_toArray, List.set_cons_zero, List.set_cons_succ] at hK ⊢
              clear hj hf
              go_simp
              exact hK _ _ (fun k v _ _ h => h.keep (Below.refl _ _)) (fun t ht => SX.eq rfl rfl rfl) (hcm.keep (Below.refl _ _) (fun e he => by simp only [List.mem_cons, List.not_mem_nil, or_false] at he; rcases he with rfl <;> (first | rfl | simp)) (fun e he => by simp only [List.mem_cons, List.not_mem_nil, or_false] at he; rcases he with rfl <;> (first | rfl | simp)))
            · have e1 : f 35 = .slice (some ⟨w11.heap.size, 0, none⟩) 4 4 := (hf 0 _ _ rfl rfl (up_dep hr (by kernel_rfl))).1.2 _ rfl
              have e2 : f 36 = .int .i64 (i : Int) := (hf 1 _ _ rfl rfl (up_dep hr (by kernel_rfl))).1.2 _ rfl
              have hli : (i : Int) < 4 := by omega
              refine GJ.op hj (by kernel_rfl) hr rfl [35, 36, 37, 38, 39, 40, 41, 34, 42, 43, 10, 11] (by kernel_rfl) (fun K hK => ?_)
              simp only [Act.put, List.foldl_cons, List.foldl_nil, List.setIfInBounds_toArray, List.set_cons_zero, List.set_cons_succ] at hK ⊢
              clear hj hf
              rw [e1, e2] at hK ⊢
              clear e1 e2
              go_simp
              exact hK _ _ (fun k v _ _ h => h.keep (Below.refl _ _)) (fun t ht => SX.eq rfl rfl rfl) (hcm.keep (Below.refl _ _) (fun e he => by simp only [List.mem_cons, List.not_mem_nil, or_false] at he; rcases he with rfl <;> (first | rfl | simp)) (fun e he => by simp only [List.mem_cons, List.not_mem_nil, or_false] at he; rcases he with rfl <;> (first | rfl | simp)))
            · have e1 : f 37 = .pointer (some ⟨w11.heap.size, i, none⟩) := (hf 2 _ _ rfl rfl (up_dep hr (by kernel_rfl))).1.2 _ rfl
              have kc := keep_cell hcm.1 KTI.out
              have klt := Nat.lt_of_lt_of_le LTr hcm.1.size
              refine GJ.op hj (by kernel_rfl) hr rfl [35, 36, 37, 38, 39, 40, 41, 34, 42, 43, 10, 11] (by kernel_rfl) (fun K hK => ?_)
              simp only [Act.put, List.foldl_cons, List.foldl_nil, List.setIfInBounds_toArray, List.set_cons_zero, List.set_cons_succ] at hK ⊢
              clear hj hf
              rw [e1] at hK ⊢
              clear e1
              go_simp
              exact hK _ _ (fun k v _ _ h => h.keep (Below.refl _ _)) (fun t ht => SX.eq rfl rfl rfl) (hcm.keep (Below.refl _ _) (fun e he => by simp only [List.mem_cons, List.not_mem_nil, or_false] at he; rcases he with rfl <;> (first | rfl | simp)) (fun e he => by simp only [List.mem_cons, List.not_mem_nil, or_false] at he; rcases he with rfl <;> (first | rfl | simp)))
            · obtain ⟨k0, k1, k2⟩ := (CX.out.after hcm.1).cells3
              have klt := (CX.out.after hcm.1).lt
              refine GJ.op hj (by kernel_rfl) hr rfl [35, 36, 37, 38, 39, 40, 41, 34, 42, 43, 10, 11] (by kernel_rfl) (fun K hK => ?_)
              simp only [Act.put, List.foldl_cons, List.foldl_nil, List.setIfInBounds_toArray, List.set_cons_zero, List.set_cons_succ] at hK ⊢
              clear hj hf
              go_simp
              exact hK _ _ (fun k v _ _ h => h.keep (Below.refl _ _)) (fun t ht => SX.eq rfl rfl rfl) (hcm.keep (Below.refl _ _) (fun e he => by simp only [List.mem_cons, List.not_mem_nil, or_false] at he; rcases he with rfl <;> (first | rfl | simp)) (fun e he => by simp only [List.mem_cons, List.not_mem_nil, or_false] at he; rcases he with rfl <;> (first | rfl | simp)))
            · obtain ⟨k0, k1, k2⟩ := (CY.out.after hcm.1).cells3
              have klt := (CY.out.after hcm.1).lt
              refine GJ.op hj (by kernel_rfl) hr rfl [35, 36, 37, 38, 39, 40, 41, 34, 42, 43, 10, 11] (by kernel_rfl) (fun K hK => ?_)
              simp only [Act.put, List.foldl_cons, List.foldl_nil, List.setIfInBounds_toArray, List.set_cons_zero, List.set_cons_succ] at hK ⊢
              clear hj hf
              go_simp
              exact hK _ _ (fun k v _ _ h => h.keep (Below.refl _ _)) (fun t ht => SX.eq rfl rfl rfl) (hcm.keep (Below.refl _ _) (fun e he => by simp only [List.mem_cons, List.not_mem_nil, or_false] at he; rcases he with rfl <;> (first | rfl | simp)) (fun e he => by simp only [List.mem_cons, List.not_mem_nil, or_false] at he; rcases he with rfl <;> (first | rfl | simp)))
            · have e1 : f 38 = fvP i := (hf 3 _ _ rfl rfl (up_dep hr (by kernel_rfl))).1.2 _ rfl
              have e2 : f 39 = .agg #[.bool (X).neg, .slice pX (X).num.length mX, .slice qX (X).den.length nX] := (hf 4 _ _ rfl rfl (up_dep hr (by kernel_rfl))).1.2 _ rfl
              have e3 : f 40 = .agg #[.bool (Y).neg, .slice pY (Y).num.length mY, .slice qY (Y).den.length nY] := (hf 5 _ _ rfl rfl (up_dep hr (by kernel_rfl))).1.2 _ rfl
              refine GJ.op hj (by kernel_rfl) hr rfl [35, 36, 37, 38, 39, 40, 41, 34, 42, 43, 10, 11] (by kernel_rfl) (fun K hK => ?_)
              simp only [Act.put, List.foldl_cons, List.foldl_nil, List.setIfInBounds_toArray, List.set_cons_zero, List.set_cons_succ] at hK ⊢
              clear hj hf
              rw [e1, e2, e3] at hK ⊢
              clear e1 e2 e3
              rcases (show i = 0 ∨ i = 1 ∨ i = 2 ∨ i = 3 by omega) with rfl | rfl | rfl | rfl
              · have ho : opF sumN X Y = o := HO.out
                simp only [fvP] at hK ⊢
                have hc := Add_c w9 _ _ X Y (FX.out.after hcm.1) (FY.out.after hcm.1)
                rw [ho] at hc
                go_simp
                refine hc.mono ?_
                rintro e w10 ⟨v10, rfl, hv10, hb10⟩
                exact hK _ _ (fun k v _ _ h => h.keep hb10) (fun t ht => SX.tup rfl rfl rfl hv10) (hcm.keep hb10 (fun e he => by simp only [List.mem_cons, List.not_mem_nil, or_false] at he; rcases he with rfl <;> (first | rfl | simp)) (fun e he => by simp only [List.mem_cons, List.not_mem_nil, or_false] at he; rcases he with rfl <;> (first | rfl | simp)))
              · have ho : opF subN X Y = o := HO.out
                simp only [fvP] at hK ⊢
                have hc := Sub_c w9 _ _ X Y (FX.out.after hcm.1) (FY.out.after hcm.1)
                rw [ho] at hc
                go_simp
                refine hc.mono ?_
                rintro e w10 ⟨v10, rfl, hv10, hb10⟩
                exact hK _ _ (fun k v _ _ h => h.keep hb10) (fun t ht => SX.tup rfl rfl rfl hv10) (hcm.keep hb10 (fun e he => by simp only [List.mem_cons, List.not_mem_nil, or_false] at he; rcases he with rfl <;> (first | rfl | simp)) (fun e he => by simp only [List.mem_cons, List.not_mem_nil, or_false] at he; rcases he with rfl <;> (first | rfl | simp)))
              · have ho : opF mulN X Y = o := HO.out
                simp only [fvP] at hK ⊢
                have hc := Mul_c w9 _ _ X Y (FX.out.after hcm.1) (FY.out.after hcm.1)
                rw [ho] at hc
                go_simp
                refine hc.mono ?_
                rintro e w10 ⟨v10, rfl, hv10, hb10⟩
                exact hK _ _ (fun k v _ _ h => h.keep hb10) (fun t ht => SX.tup rfl rfl rfl hv10) (hcm.keep hb10 (fun e he => by simp only [List.mem_cons, List.not_mem_nil, or_false] at he; rcases he with rfl <;> (first | rfl | simp)) (fun e he => by simp only [List.mem_cons, List.not_mem_nil, or_false] at he; rcases he with rfl <;> (first | rfl | simp)))
              · have ho : opF divN X Y = o := HO.out
                simp only [fvP] at hK ⊢
                have hc := Div_c w9 _ _ X Y (FX.out.after hcm.1) (FY.out.after hcm.1)
                rw [ho] at hc
                go_simp
                refine hc.mono ?_
                rintro e w10 ⟨v10, rfl, hv10, hb10⟩
                exact hK _ _ (fun k v _ _ h => h.keep hb10) (fun t ht => SX.tup rfl rfl rfl hv10) (hcm.keep hb10 (fun e he => by simp only [List.mem_cons, List.not_mem_nil, or_false] at he; rcases he with rfl <;> (first | rfl | simp)) (fun e he => by simp only [List.mem_cons, List.not_mem_nil, or_false] at he; rcases he with rfl <;> (first | rfl | simp)))
            · obtain ⟨u, e1, hu9⟩ : ∃ u, f 41 = .tuple #[u, .int .i64 (o).2] ∧ IsF w9 u (o).1 := (hf 6 _ _ rfl rfl (up_dep hr (by kernel_rfl))).2 _ rfl
              refine GJ.op hj (by kernel_rfl) hr rfl [35, 36, 37, 38, 39, 40, 41, 34, 42, 43, 10, 11] (by kernel_rfl) (fun K hK => ?_)
              simp only [Act.put, List.foldl_cons, List.foldl_nil, List.setIfInBounds_toArray, List.set_cons_zero, List.set_cons_succ] at hK ⊢
              clear hj hf
              rw [e1] at hK ⊢
              clear e1
              go_simp
              exact hK _ _ (fun k v _ _ h => h.keep (Below.refl _ _)) (fun t ht => SX.tup rfl rfl rfl hu9) (hcm.keep (Below.refl _ _) (fun e he => by simp only [List.mem_cons, List.not_mem_nil, or_false] at he; rcases he with rfl <;> (first | rfl | simp)) (fun e he => by simp only [List.mem_cons, List.not_mem_nil, or_false] at he; rcases he with rfl <;> (first | rfl | simp)))
            · obtain ⟨u, e1, hu9⟩ : ∃ u, f 34 = .tuple #[u, .int .i64 (o).2] ∧ IsF w9 u (o).1 := (hf 7 _ _ rfl rfl (up_dep hr (by kernel_rfl))).2 _ rfl
              refine GJ.op hj (by kernel_rfl) hr rfl [35, 36, 37, 38, 39, 40, 41, 34, 42, 43, 10, 11] (by kernel_rfl) (fun K hK => ?_)
              simp only [Act.put, List.foldl_cons, List.foldl_nil, List.setIfInBounds_toArray, List.set_cons_zero, List.set_cons_succ] at hK ⊢
              clear hj hf
              rw [e1] at hK ⊢
              clear e1
              go_simp
              exact hK _ _ (fun k v _ _ h => h.keep (Below.refl _ _)) (fun t ht => SX.isF rfl rfl rfl hu9) (hcm.keep (Below.refl _ _) (fun e he => by simp only [List.mem_cons, List.not_mem_nil, or_false] at he; rcases he with rfl <;> (first | rfl | simp)) (fun e he => by simp only [List.mem_cons, List.not_mem_nil, or_false] at he; rcases he with rfl <;> (first | rfl | simp)))
            · obtain ⟨u, e1, hu9⟩ : ∃ u, f 34 = .tuple #[u, .int .i64 (o).2] ∧ IsF w9 u (o).1 := (hf 7 _ _ rfl rfl (up_dep hr (by kernel_rfl))).2 _ rfl
              refine GJ.op hj (by kernel_rfl) hr rfl [35, 36, 37, 38, 39, 40, 41, 34, 42, 43, 10, 11] (by kernel_rfl) (fun K hK => ?_)
              simp only [Act.put, List.foldl_cons, List.foldl_nil, List.setIfInBounds_toArray, List.set_cons_zero, List.set_cons_succ] at hK ⊢
              clear hj hf
              rw [e1] at hK ⊢
              clear e1
              go_simp
              exact hK _ _ (fun k v _ _ h => h.keep (Below.refl _ _)) (fun t ht => SX.eq rfl rfl rfl) (hcm.keep (Below.refl _ _) (fun e he => by simp only [List.mem_cons, List.not_mem_nil, or_false] at he; rcases he with rfl <;> (first | rfl | simp)) (fun e he => by simp only [List.mem_cons, List.not_mem_nil, or_false] at he; rcases he with rfl <;> (first | rfl | simp)))
            · have nst : ¬ up listed 11 := fun h => not_up hun (hj.closed 11 10 h (by kernel_rfl))
              refine GJ.op hj (by kernel_rfl) hr rfl [35, 36, 37, 38, 39, 40, 41, 34, 42, 43, 10, 11] (by kernel_rfl) (fun K hK => ?_)
              simp only [Act.put, List.foldl_cons, List.foldl_nil, List.setIfInBounds_toArray, List.set_cons_zero, List.set_cons_succ] at hK ⊢
              clear hj hf
              go_simp
              exact hK _ _ (fun k v _ _ h => h.keep (held_alloc (Below.refl _ _))) (fun t ht => SX.any rfl rfl rfl) (hcm.new ⟨10, 11, o.1, 10⟩ (by simp) rfl (fun e he => by simp only [List.mem_cons, List.not_mem_nil, or_false] at he; rcases he with rfl <;> (first | (intro _; rfl) | simp)) (fun e he => by simp only [List.mem_cons, List.not_mem_nil, or_false] at he; rcases he with rfl <;> (first | (intro _; rfl) | simp)) (fun e he => by simp only [List.mem_cons, List.not_mem_nil, or_false] at he; rcases he with rfl <;> (first | rfl | simp)) nst rfl (fun e he => by simp only [List.mem_cons, List.not_mem_nil, or_false] at he; rcases he with rfl <;> (first | (intro _; rfl) | simp)))
            · have hcl := hj.closed
              have hsz := hj.lsize
              have hlt : 11 < listed.size := by rw [hsz]; decide
              have hua : ∀ e ∈ ([⟨10, 11, o.1, 10⟩] : List VE), up listed e.al := fun e he => by simp only [List.mem_cons, List.not_mem_nil, or_false] at he; rcases he with rfl <;> exact up_dep hr (by kernel_rfl)
              have s1 : IsF w9 (f 42) (o.1) := (hf 8 _ _ rfl rfl (up_dep hr (by kernel_rfl))).1.1 _ rfl
              obtain ⟨blk, e1, hbw, hbl, hyes, hnot⟩ := hcm.2.1 ⟨10, 11, o.1, 10⟩ (by simp) (up_dep hr (by kernel_rfl))
              have hz : zeroB w9 blk := hnot (not_up hun)
              obtain ⟨va, vb, e2, h1, h2⟩ := s1
              obtain ⟨pa, ca, rfl, _, _⟩ := h1.shape
              obtain ⟨pb, cb, rfl, _, _⟩ := h2.shape
              refine GJ.op hj (by kernel_rfl) hr rfl [35, 36, 37, 38, 39, 40, 41, 34, 42, 43, 10, 11] (by kernel_rfl) (fun K hK => ?_)
              simp only [Act.put, List.foldl_cons, List.foldl_nil, List.setIfInBounds_toArray, List.set_cons_zero, List.set_cons_succ] at hK ⊢
              clear hj hf
              obtain ⟨z0, z1, z2⟩ := Box.cells3 hz
              have q0 := Box.frozen hz 0
              have q1 := Box.frozen hz 1
              have q2 := Box.frozen hz 2
              obtain ⟨za, hza⟩ : ∃ z, f 10 = z := ⟨_, rfl⟩
              obtain ⟨zb, hzb⟩ : ∃ z, f 42 = z := ⟨_, rfl⟩
              rw [hza, hzb] at hK ⊢
              simp only at e1
              rw [hza] at e1
              rw [hzb] at e2
              subst e1 e2
              clear hzb
              go_simp
              exact hK undef _ (fun k v _ _ h => h.fx (fx_set3 blk _ _ _) (Box.noT hz)) (fun t ht => by cases ht) (hcm.put ⟨10, 11, o.1, 10⟩ (by simp) rfl (fun e he => by simp only [List.mem_cons, List.not_mem_nil, or_false] at he; rcases he with rfl <;> (first | (intro _; rfl) | simp)) (fun e he => by simp only [List.mem_cons, List.not_mem_nil, or_false] at he; rcases he with rfl <;> (first | (intro _; rfl) | simp)) hlt hua hza hz ⟨_, _, rfl, h1, h2⟩ (fun e he => by simp only [List.mem_cons, List.not_mem_nil, or_false] at he; rcases he with rfl <;> (first | rfl | exact hza.symm)))
            · have e1 : f 43 = .int .i64 o.2 := (hf 9 _ _ rfl rfl (up_dep hr (by kernel_rfl))).1.2 _ rfl
              refine GJ.op hj (by kernel_rfl) hr rfl [35, 36, 37, 38, 39, 40, 41, 34, 42, 43, 10, 11] (by kernel_rfl) (fun K hK => ?_)
              simp only [Act.put, List.foldl_cons, List.foldl_nil, List.setIfInBounds_toArray, List.set_cons_zero, List.set_cons_succ] at hK ⊢
              clear hj hf
              rw [e1] at hK ⊢
              clear e1
              go_simp
              exact hK _ _ (fun k v _ _ h => h.keep (Below.refl _ _)) (fun t ht => SX.eq rfl rfl rfl) (hcm.keep (Below.refl _ _) (fun e he => by simp only [List.mem_cons, List.not_mem_nil, or_false] at he; rcases he with rfl <;> (first | rfl | simp)) (fun e he => by simp only [List.mem_cons, List.not_mem_nil, or_false] at he; rcases he with rfl <;> (first | rfl | simp)))
          · intro listed a w13 hr hj
            have hu : ∀ k, k < 13 → up listed k := fun k hk => all_up (by kernel_rfl) hj.lsize hr k hk
            obtain ⟨f, rfl, hcm, hf⟩ := hj.opened [35, 36, 37, 38, 39, 40, 41, 34, 42, 43, 10, 11] (by kernel_rfl)
            obtain ⟨BZ, e5, gg, vv⟩ := hcm.done ⟨10, 11, o.1, 10⟩ (by simp) (hu 10 (by omega)) (hu 11 (by omega))
            have e6 : f 11 = .int .i64 o.2 := (hf 12 _ _ rfl rfl (hu 12 (by omega))).1.2 _ rfl
            have hbn : Below wr.heap.size wr w13 := hcm.1
            have HVBZ := Lib.hid vv
            simp only at e5 HVBZ
            clear hcm hf hj hr hu vv gg
            simp only [List.foldl_cons, List.foldl_nil, List.setIfInBounds_toArray, List.set_cons_zero, List.set_cons_succ]
            rw [e5, e6]
            clear e5 e6
            generalize f 35 = g35
            generalize f 36 = g36
            generalize f 37 = g37
            generalize f 38 = g38
            generalize f 39 = g39
            generalize f 40 = g40
            generalize f 41 = g41
            generalize f 34 = g34
            generalize f 42 = g42
            generalize f 43 = g43
            clear f
            replace CX := Lib.hid (CX.out.after hbn)
            replace FX := Lib.hid (FX.out.after hbn)
            replace CY := Lib.hid (CY.out.after hbn)
            replace FY := Lib.hid (FY.out.after hbn)
            replace CA := Lib.hid (CA.out.after hbn)
            replace FA := Lib.hid (FA.out.after hbn)
            replace CB := Lib.hid (CB.out.after hbn)
            replace FB := Lib.hid (FB.out.after hbn)
            replace LUr := Nat.lt_of_lt_of_le LUr hbn.size
            replace KUI := Lib.hid (keep_cell hbn KUI.out)
            replace hbl := Lib.hid (hbl.out.trans (hbn.mono hbl.out.size))
            clear hbn KTI LTr
            go_upto_region 9 with fail
            refine wp_region_gj (J := GJ _ (fun _ => SX (fun κ => match κ with | 8 => some (o.1) | _ => none) (fun κ => match κ with | 0 => some (.slice (some ⟨w11.heap.size + 1, 0, none⟩) 4 4) | 1 => some (.int .i64 (i : Int)) | 2 => some (.pointer (some ⟨w11.heap.size + 1, i, none⟩)) | 3 => some (fvR i) | 4 => some (.agg #[.bool (X).neg, .slice pA (X).num.length mA, .slice qA (X).den.length nA]) | 5 => some (.agg #[.bool (Y).neg, .slice pB (Y).num.length mB, .slice qB (Y).den.length nB]) | 9 => some (.int .i64 o.2) | 12 => some (.int .i64 o.2) | _ => none) (fun κ => match κ with | 6 => some (o) | 7 => some (o) | _ => none)) (CV w13 [⟨10, 11, o.1, 12⟩]) _) (by kernel_rfl) ?_ ?_ (GJ.start CV.start)
            · intro listed a w9 i hr hj
              obtain ⟨hi12, hun, _, _, _⟩ := ready_mem hr
              have h12 : i ∈ List.range 13 := List.mem_range.2 hi12
              simp only [List.range, List.range.loop, List.mem_cons, List.not_mem_nil, or_false] at h12
              obtain ⟨f, rfl, hcm, hf⟩ := hj.opened [45, 46, 47, 48, 49, 50, 51, 44, 52, 53, 12, 13] (by kernel_rfl)
              have hcm : CV w13 [⟨10, 11, o.1, 12⟩] listed f w9 := hcm
              rcases h12 with rfl | rfl | rfl | rfl | rfl | rfl | rfl | rfl | rfl | rfl | rfl | rfl | rfl
              · refine GJ.op hj (by kernel_rfl) hr rfl [45, 46, 47, 48, 49, 50, 51, 44, 52, 53, 12, 13] (by kernel_rfl) (fun K hK => ?_)
                simp only [Act.put, List.foldl_cons, List.foldl_nil, List.setIfInBounds_toArray, List.set_cons_zero, List.set_cons_succ] at hK ⊢
                clear hj hf
                go_simp
                exact hK _ _ (fun k v _ _ h => h.keep (Below.refl _ _)) (fun t ht => SX.eq rfl rfl rfl) (hcm.keep (Below.refl _ _) (fun e he => by simp only [List.mem_cons, List.not_mem_nil, or_false] at he; rcases he with rfl <;> (first | rfl | simp)) (fun e he => by simp only [List.mem_cons, List.not_mem_nil, or_false] at he; rcases he with rfl <;> (first | rfl | simp)))
              · refine GJ.op hj (by kernel_rfl) hr rfl [45, 46, 47, 48, 49, 50, 51, 44, 52, 53, 12, 13] (by kernel_rfl) (fun K hK => ?_)
                simp only [Act.put, List.foldl_cons, List.foldl_nil, List.setIfInBounds_toArray, List.set_cons_zero, List.set_cons_succ] at hK ⊢
                clear hj hf
                go_simp
                exact hK _ _ (fun k v _ _ h => h.keep (Below.refl _ _)) (fun t ht => SX.eq rfl rfl rfl) (hcm.keep (Below.refl _ _) (fun e he => by simp only [List.mem_cons, List.not_mem_nil, or_false] at he; rcases he with rfl <;> (first | rfl | simp)) (fun e he => by simp only [List.mem_cons, List.not_mem_nil, or_false] at he; rcases he with rfl <;> (first | rfl | simp)))
              · have e1 : f 45 = .slice (some ⟨w11.heap.size + 1, 0, none⟩) 4 4 := (hf 0 _ _ rfl rfl (up_dep hr (by kernel_rfl))).1.2 _ rfl
                have e2 : f 46 = .int .i64 (i : Int) := (hf 1 _ _ rfl rfl (up_dep hr (by kernel_rfl))).1.2 _ rfl
                have hli : (i : Int) < 4 := by omega
                refine GJ.op hj (by kernel_rfl) hr rfl [45, 46, 47, 48, 49, 50, 51, 44, 52, 53, 12, 13] (by kernel_rfl) (fun K hK => ?_)
                simp only [Act.put, List.foldl_cons, List.foldl_nil, List.setIfInBounds_toArray, List.set_cons_zero, List.set_cons_succ] at hK ⊢
                clear hj hf
                rw [e1, e2] at hK ⊢
                clear e1 e2
                go_simp
                exact hK _ _ (fun k v _ _ h => h.keep (Below.refl _ _)) (fun t ht => SX.eq rfl rfl rfl) (hcm.keep (Below.refl _ _) (fun e he => by simp only [List.mem_cons, List.not_mem_nil, or_false] at he; rcases he with rfl <;> (first | rfl | simp)) (fun e he => by simp only [List.mem_cons, List.not_mem_nil, or_false] at he; rcases he with rfl <;> (first | rfl | simp)))
              · have e1 : f 47 = .pointer (some ⟨w11.heap.size + 1, i, none⟩) := (hf 2 _ _ rfl rfl (up_dep hr (by kernel_rfl))).1.2 _ rfl
                have kc := keep_cell hcm.1 KUI.out
                have klt := Nat.lt_of_lt_of_le LUr hcm.1.size
                refine GJ.op hj (by kernel_rfl) hr rfl [45, 46, 47, 48, 49, 50, 51, 44, 52, 53, 12, 13] (by kernel_rfl) (fun K hK => ?_)
                simp only [Act.put, List.foldl_cons, List.foldl_nil, List.setIfInBounds_toArray, List.set_cons_zero, List.set_cons_succ] at hK ⊢
                clear hj hf
                rw [e1] at hK ⊢
                clear e1
                go_simp
                exact hK _ _ (fun k v _ _ h => h.keep (Below.refl _ _)) (fun t ht => SX.eq rfl rfl rfl) (hcm.keep (Below.refl _ _) (fun e he => by simp only [List.mem_cons, List.not_mem_nil, or_false] at he; rcases he with rfl <;> (first | rfl | simp)) (fun e he => by simp only [List.mem_cons, List.not_mem_nil, or_false] at he; rcases he with rfl <;> (first | rfl | simp)))
              · obtain ⟨k0, k1, k2⟩ := (CA.out.after hcm.1).cells3
                have klt := (CA.out.after hcm.1).lt
                refine GJ.op hj (by kernel_rfl) hr rfl [45, 46, 47, 48, 49, 50, 51, 44, 52, 53, 12, 13] (by kernel_rfl) (fun K hK => ?_)
                simp only [Act.put, List.foldl_cons, List.foldl_nil, List.setIfInBounds_toArray, List.set_cons_zero, List.set_cons_succ] at hK ⊢
                clear hj hf
                go_simp
                exact hK _ _ (fun k v _ _ h => h.keep (Below.refl _ _)) (fun t ht => SX.eq rfl rfl rfl) (hcm.keep (Below.refl _ _) (fun e he => by simp only [List.mem_cons, List.not_mem_nil, or_false] at he; rcases he with rfl <;> (first | rfl | simp)) (fun e he => by simp only [List.mem_cons, List.not_mem_nil, or_false] at he; rcases he with rfl <;> (first | rfl | simp)))
              · obtain ⟨k0, k1, k2⟩ := (CB.out.after hcm.1).cells3
                have klt := (CB.out.after hcm.1).lt
                refine GJ.op hj (by kernel_rfl) hr rfl [45, 46, 47, 48, 49, 50, 51, 44, 52, 53, 12, 13] (by kernel_rfl) (fun K hK => ?_)
                simp only [Act.put, List.foldl_cons, List.foldl_nil, List.setIfInBounds_toArray, List.set_cons_zero, List.set_cons_succ] at hK ⊢
                clear hj hf
                go_simp
                exact hK _ _ (fun k v _ _ h => h.keep (Below.refl _ _)) (fun t ht => SX.eq rfl rfl rfl) (hcm.keep (Below.refl _ _) (fun e he => by simp only [List.mem_cons, List.not_mem_nil, or_false] at he; rcases he with rfl <;> (first | rfl | simp)) (fun e he => by simp only [List.mem_cons, List.not_mem_nil, or_false] at he; rcases he with rfl <;> (first | rfl | simp)))
              · have e1 : f 48 = fvR i := (hf 3 _ _ rfl rfl (up_dep hr (by kernel_rfl))).1.2 _ rfl
                have e2 : f 49 = .agg #[.bool (X).neg, .slice pA (X).num.length mA, .slice qA (X).den.length nA] := (hf 4 _ _ rfl rfl (up_dep hr (by kernel_rfl))).1.2 _ rfl
                have e3 : f 50 = .agg #[.bool (Y).neg, .slice pB (Y).num.length mB, .slice qB (Y).den.length nB] := (hf 5 _ _ rfl rfl (up_dep hr (by kernel_rfl))).1.2 _ rfl
                refine GJ.op hj (by kernel_rfl) hr rfl [45, 46, 47, 48, 49, 50, 51, 44, 52, 53, 12, 13] (by kernel_rfl) (fun K hK => ?_)
                simp only [Act.put, List.foldl_cons, List.foldl_nil, List.setIfInBounds_toArray, List.set_cons_zero, List.set_cons_succ] at hK ⊢
                clear hj hf
                rw [e1, e2, e3] at hK ⊢
                clear e1 e2 e3
                rcases (show i = 0 ∨ i = 1 ∨ i = 2 ∨ i = 3 by omega) with rfl | rfl | rfl | rfl
                · have ho : opF sumN X Y = o := HO.out
                  simp only [fvR] at hK ⊢
                  have hc := rAdd_c w9 _ _ X Y (FA.out.after hcm.1) (FB.out.after hcm.1)
                  rw [ho] at hc
                  go_simp
                  refine hc.mono ?_
                  rintro e w10 ⟨v10, rfl, hv10, hb10⟩
                  exact hK _ _ (fun k v _ _ h => h.keep hb10) (fun t ht => SX.tup rfl rfl rfl hv10) (hcm.keep hb10 (fun e he => by simp only [List.mem_cons, List.not_mem_nil, or_false] at he; rcases he with rfl <;> (first | rfl | simp)) (fun e he => by simp only [List.mem_cons, List.not_mem_nil, or_false] at he; rcases he with rfl <;> (first | rfl | simp)))
                · have ho : opF subN X Y = o := HO.out
                  simp only [fvR] at hK ⊢
                  have hc := rSub_c w9 _ _ X Y (FA.out.after hcm.1) (FB.out.after hcm.1)
                  rw [ho] at hc
                  go_simp
                  refine hc.mono ?_
                  rintro e w10 ⟨v10, rfl, hv10, hb10⟩
                  exact hK _ _ (fun k v _ _ h => h.keep hb10) (fun t ht => SX.tup rfl rfl rfl hv10) (hcm.keep hb10 (fun e he => by simp only [List.mem_cons, List.not_mem_nil, or_false] at he; rcases he with rfl <;> (first | rfl | simp)) (fun e he => by simp only [List.mem_cons, List.not_mem_nil, or_false] at he; rcases he with rfl <;> (first | rfl | simp)))
                · have ho : opF mulN X Y = o := HO.out
                  simp only [fvR] at hK ⊢
                  have hc := rMul_c w9 _ _ X Y (FA.out.after hcm.1) (FB.out.after hcm.1)
                  rw [ho] at hc
                  go_simp
                  refine hc.mono ?_
                  rintro e w10 ⟨v10, rfl, hv10, hb10⟩
                  exact hK _ _ (fun k v _ _ h => h.keep hb10) (fun t ht => SX.tup rfl rfl rfl hv10) (hcm.keep hb10 (fun e he => by simp only [List.mem_cons, List.not_mem_nil, or_false] at he; rcases he with rfl <;> (first | rfl | simp)) (fun e he => by simp only [List.mem_cons, List.not_mem_nil, or_false] at he; rcases he with rfl <;> (first | rfl | simp)))
                · have ho : opF divN X Y = o := HO.out
                  simp only [fvR] at hK ⊢
                  have hc := rDiv_c w9 _ _ X Y (FA.out.after hcm.1) (FB.out.after hcm.1)
                  rw [ho] at hc
                  go_simp
                  refine hc.mono ?_
                  rintro e w10 ⟨v10, rfl, hv10, hb10⟩
                  exact hK _ _ (fun k v _ _ h => h.keep hb10) (fun t ht => SX.tup rfl rfl rfl hv10) (hcm.keep hb10 (fun e he => by simp only [List.mem_cons, List.not_mem_nil, or_false] at he; rcases he with rfl <;> (first | rfl | simp)) (fun e he => by simp only [List.mem_cons, List.not_mem_nil, or_false] at he; rcases he with rfl <;> (first | rfl | simp)))
              · obtain ⟨u, e1, hu9⟩ : ∃ u, f 51 = .tuple #[u, .int .i64 (o).2] ∧ IsF w9 u (o).1 := (hf 6 _ _ rfl rfl (up_dep hr (by kernel_rfl))).2 _ rfl
                refine GJ.op hj (by kernel_rfl) hr rfl [45, 46, 47, 48, 49, 50, 51, 44, 52, 53, 12, 13] (by kernel_rfl) (fun K hK => ?_)
                simp only [Act.put, List.foldl_cons, List.foldl_nil, List.setIfInBounds_toArray, List.set_cons_zero, List.set_cons_succ] at hK ⊢
                clear hj hf
                rw [e1] at hK ⊢
                clear e1
                go_simp
                exact hK _ _ (fun k v _ _ h => h.keep (Below.refl _ _)) (fun t ht => SX.tup rfl rfl rfl hu9) (hcm.keep (Below.refl _ _) (fun e he => by simp only [List.mem_cons, List.not_mem_nil, or_false] at he; rcases he with rfl <;> (first | rfl | simp)) (fun e he => by simp only [List.mem_cons, List.not_mem_nil, or_false] at he; rcases he with rfl <;> (first | rfl | simp)))
              · obtain ⟨u, e1, hu9⟩ : ∃ u, f 44 = .tuple #[u, .int .i64 (o).2] ∧ IsF w9 u (o).1 := (hf 7 _ _ rfl rfl (up_dep hr (by kernel_rfl))).2 _ rfl
                refine GJ.op hj (by kernel_rfl) hr rfl [45, 46, 47, 48, 49, 50, 51, 44, 52, 53, 12, 13] (by kernel_rfl) (fun K hK => ?_)
                simp only [Act.put, List.foldl_cons, List.foldl_nil, List.setIfInBounds_toArray, List.set_cons_zero, List.set_cons_succ] at hK ⊢
                clear hj hf
                rw [e1] at hK ⊢
                clear e1
                go_simp
                exact hK _ _ (fun k v _ _ h => h.keep (Below.refl _ _)) (fun t ht => SX.isF rfl rfl rfl hu9) (hcm.keep (Below.refl _ _) (fun e he => by simp only [List.mem_cons, List.not_mem_nil, or_false] at he; rcases he with rfl <;> (first | rfl | simp)) (fun e he => by simp only [List.mem_cons, List.not_mem_nil, or_false] at he; rcases he with rfl <;> (first | rfl | simp)))
              · obtain ⟨u, e1, hu9⟩ : ∃ u, f 44 = .tuple #[u, .int .i64 (o).2] ∧ IsF w9 u (o).1 := (hf 7 _ _ rfl rfl (up_dep hr (by kernel_rfl))).2 _ rfl
                refine GJ.op hj (by kernel_rfl) hr rfl [45, 46, 47, 48, 49, 50, 51, 44, 52, 53, 12, 13] (by kernel_rfl) (fun K hK => ?_)
                simp only [Act.put, List.foldl_cons, List.foldl_nil, List.setIfInBounds_toArray, List.set_cons_zero, List.set_cons_succ] at hK ⊢
                clear hj hf
                rw [e1] at hK ⊢
                clear e1
                go_simp
                exact hK _ _ (fun k v _ _ h => h.keep (Below.refl _ _)) (fun t ht => SX.eq rfl rfl rfl) (hcm.keep (Below.refl _ _) (fun e he => by simp only [List.mem_cons, List.not_mem_nil, or_false] at he; rcases he with rfl <;> (first | rfl | simp)) (fun e he => by simp only [List.mem_cons, List.not_mem_nil, or_false] at he; rcases he with rfl <;> (first | rfl | simp)))
              · have nst : ¬ up listed 11 := fun h => not_up hun (hj.closed 11 10 h (by kernel_rfl))
                refine GJ.op hj (by kernel_rfl) hr rfl [45, 46, 47, 48, 49, 50, 51, 44, 52, 53, 12, 13] (by kernel_rfl) (fun K hK => ?_)
                simp only [Act.put, List.foldl_cons, List.foldl_nil, List.setIfInBounds_toArray, List.set_cons_zero, List.set_cons_succ] at hK ⊢
                clear hj hf
                go_simp
                exact hK _ _ (fun k v _ _ h => h.keep (held_alloc (Below.refl _ _))) (fun t ht => SX.any rfl rfl rfl) (hcm.new ⟨10, 11, o.1, 12⟩ (by simp) rfl (fun e he => by simp only [List.mem_cons, List.not_mem_nil, or_false] at he; rcases he with rfl <;> (first | (intro _; rfl) | simp)) (fun e he => by simp only [List.mem_cons, List.not_mem_nil, or_false] at he; rcases he with rfl <;> (first | (intro _; rfl) | simp)) (fun e he => by simp only [List.mem_cons, List.not_mem_nil, or_false] at he; rcases he with rfl <;> (first | rfl | simp)) nst rfl (fun e he => by simp only [List.mem_cons, List.not_mem_nil, or_false] at he; rcases he with rfl <;> (first | (intro _; rfl) | simp)))
              · have hcl := hj.closed
                have hsz := hj.lsize
                have hlt : 11 < listed.size := by rw [hsz]; decide
                have hua : ∀ e ∈ ([⟨10, 11, o.1, 12⟩] : List VE), up listed e.al := fun e he => by simp only [List.mem_cons, List.not_mem_nil, or_false] at he; rcases he with rfl <;> exact up_dep hr (by kernel_rfl)
                have s1 : IsF w9 (f 52) (o.1) := (hf 8 _ _ rfl rfl (up_dep hr (by kernel_rfl))).1.1 _ rfl
                obtain ⟨blk, e1, hbw, hbl, hyes, hnot⟩ := hcm.2.1 ⟨10, 11, o.1, 12⟩ (by simp) (up_dep hr (by kernel_rfl))
                have hz : zeroB w9 blk := hnot (not_up hun)
                obtain ⟨va, vb, e2, h1, h2⟩ := s1
                obtain ⟨pa, ca, rfl, _, _⟩ := h1.shape
                obtain ⟨pb, cb, rfl, _, _⟩ := h2.shape
                refine GJ.op hj (by kernel_rfl) hr rfl [45, 46, 47, 48, 49, 50, 51, 44, 52, 53, 12, 13] (by kernel_rfl) (fun K hK => ?_)
                simp only [Act.put, List.foldl_cons, List.foldl_nil, List.setIfInBounds_toArray, List.set_cons_zero, List.set_cons_succ] at hK ⊢
                clear hj hf
                obtain ⟨z0, z1, z2⟩ := Box.cells3 hz
                have q0 := Box.frozen hz 0
                have q1 := Box.frozen hz 1
                have q2 := Box.frozen hz 2
                obtain ⟨za, hza⟩ : ∃ z, f 12 = z := ⟨_, rfl⟩
                obtain ⟨zb, hzb⟩ : ∃ z, f 52 = z := ⟨_, rfl⟩
                rw [hza, hzb] at hK ⊢
                simp only at e1
                rw [hza] at e1
                rw [hzb] at e2
                subst e1 e2
                clear hzb
                go_simp
                exact hK undef _ (fun k v _ _ h => h.fx (fx_set3 blk _ _ _) (Box.noT hz)) (fun t ht => by cases ht) (hcm.put ⟨10, 11, o.1, 12⟩ (by simp) rfl (fun e he => by simp only [List.mem_cons, List.not_mem_nil, or_false] at he; rcases he with rfl <;> (first | (intro _; rfl) | simp)) (fun e he => by simp only [List.mem_cons, List.not_mem_nil, or_false] at he; rcases he with rfl <;> (first | (intro _; rfl) | simp)) hlt hua hza hz ⟨_, _, rfl, h1, h2⟩ (fun e he => by simp only [List.mem_cons, List.not_mem_nil, or_false] at he; rcases he with rfl <;> (first | rfl | exact hza.symm)))
              · have e1 : f 53 = .int .i64 o.2 := (hf 9 _ _ rfl rfl (up_dep hr (by kernel_rfl))).1.2 _ rfl
                refine GJ.op hj (by kernel_rfl) hr rfl [45, 46, 47, 48, 49, 50, 51, 44, 52, 53, 12, 13] (by kernel_rfl) (fun K hK => ?_)
                simp only [Act.put, List.foldl_cons, List.foldl_nil, List.setIfInBounds_toArray, List.set_cons_zero, List.set_cons_succ] at hK ⊢
                clear hj hf
                rw [e1] at hK ⊢
                clear e1
                go_simp
                exact hK _ _ (fun k v _ _ h => h.keep (Below.refl _ _)) (fun t ht => SX.eq rfl rfl rfl) (hcm.keep (Below.refl _ _) (fun e he => by simp only [List.mem_cons, List.not_mem_nil, or_false] at he; rcases he with rfl <;> (first | rfl | simp)) (fun e he => by simp only [List.mem_cons, List.not_mem_nil, or_false] at he; rcases he with rfl <;> (first | rfl | simp)))
            · intro listed a w14 hr hj
              have hu : ∀ k, k < 13 → up listed k := fun k hk => all_up (by kernel_rfl) hj.lsize hr k hk
              obtain ⟨f, rfl, hcm, hf⟩ := hj.opened [45, 46, 47, 48, 49, 50, 51, 44, 52, 53, 12, 13] (by kernel_rfl)
              obtain ⟨BV, e5, gg, vv⟩ := hcm.done ⟨10, 11, o.1, 12⟩ (by simp) (hu 10 (by omega)) (hu 11 (by omega))
              have e6 : f 13 = .int .i64 o.2 := (hf 12 _ _ rfl rfl (hu 12 (by omega))).1.2 _ rfl
              have hbn : Below w13.heap.size w13 w14 := hcm.1
              have HVBV := Lib.hid vv
              simp only at e5 HVBV
              clear hcm hf hj hr hu vv gg
              simp only [List.foldl_cons, List.foldl_nil, List.setIfInBounds_toArray, List.set_cons_zero, List.set_cons_succ]
              rw [e5, e6]
              clear e5 e6
              generalize f 45 = g45
              generalize f 46 = g46
              generalize f 47 = g47
              generalize f 48 = g48
              generalize f 49 = g49
              generalize f 50 = g50
              generalize f 51 = g51
              generalize f 44 = g44
              generalize f 52 = g52
              generalize f 53 = g53
              clear f
              replace HVBZ := Lib.hid (HVBZ.out.after hbn)
              replace hbl := Lib.hid (hbl.out.trans (hbn.mono hbl.out.size))
              clear hbn KUI LUr
              obtain ⟨va, vb, hbx, h1, h2⟩ := HVBZ.out
              obtain ⟨pZ, mZ, rfl, _, _⟩ := h1.shape
              obtain ⟨qZ, nZ, rfl, _, _⟩ := h2.shape
              have CZ := Lib.hid hbx
              have FZ := Lib.hid (IsF.at_ h1 h2)
              clear hbx h1 h2
              obtain ⟨va, vb, hbx, h1, h2⟩ := HVBV.out
              obtain ⟨pV, mV, rfl, _, _⟩ := h1.shape
              obtain ⟨qV, nV, rfl, _, _⟩ := h2.shape
              have CV := Lib.hid hbx
              have FV := Lib.hid (IsF.at_ h1 h2)
              clear hbx h1 h2
              clear HVBZ HVBV CX CY CA CB FX FY FA FB
              have HB := hbl
              obtain ⟨cZ0, cZ1, cZ2⟩ := CZ.out.cells3
              have ltZ := CZ.out.lt
              obtain ⟨cV0, cV1, cV2⟩ := CV.out.cells3
              have ltV := CV.out.lt
              go_wp2_with fail
              refine (same_c _ _ _ o.2 o.1 FZ.out FV.out).mono ?_
              rintro e w15 ⟨rfl, hb15⟩
              clear cZ0 cZ1 cZ2 ltZ cV0 cV1 cV2 ltV
              replace CZ := Lib.hid (CZ.out.after hb15)
              replace CV := Lib.hid (CV.out.after hb15)
              replace FZ := Lib.hid (FZ.out.after hb15)
              replace FV := Lib.hid (FV.out.after hb15)
              replace HB := Lib.hid (HB.out.trans (hb15.mono HB.out.size))
              clear hb15
              obtain ⟨cZ0, cZ1, cZ2⟩ := CZ.out.cells3
              have ltZ := CZ.out.lt
              obtain ⟨cV0, cV1, cV2⟩ := CV.out.cells3
              have ltV := CV.out.lt
              go_wp2_with fail
              go_roundg (4 - (i + 1))
              case measure => omega
              case rel => exact ⟨i + 1, by omega, rfl, by go_num, HB⟩
        · obtain rfl : i = 4 := by omega
          clear KT KU LT LU hlt
          replace CX := Lib.hid (CX.out.after hbl.out)
          replace FX := Lib.hid (FX.out.after hbl.out)
          replace CY := Lib.hid (CY.out.after hbl.out)
          replace FY := Lib.hid (FY.out.after hbl.out)
          replace CA := Lib.hid (CA.out.after hbl.out)
          replace FA := Lib.hid (FA.out.after hbl.out)
          replace CB := Lib.hid (CB.out.after hbl.out)
          replace FB := Lib.hid (FB.out.after hbl.out)
          replace HB := Lib.hid (HB.out.trans (hbl.out.mono HB.out.size))
          clear hbl
          obtain ⟨cm, hcm⟩ : ∃ cm, cmpF X Y = cm := ⟨_, rfl⟩
          have HCM := Lib.hid hcm
          clear hcm
          obtain ⟨cX0, cX1, cX2⟩ := CX.out.cells3
          have ltX := CX.out.lt
          obtain ⟨cY0, cY1, cY2⟩ := CY.out.cells3
          have ltY := CY.out.lt
          obtain ⟨cA0, cA1, cA2⟩ := CA.out.cells3
          have ltA := CA.out.lt
          obtain ⟨cB0, cB1, cB2⟩ := CB.out.cells3
          have ltB := CB.out.lt
          go_wp2_with fail
          refine (Cmp_c _ _ _ X Y FX.out FY.out).mono ?_
          rw [HCM.out]
          rintro e w31 ⟨rfl, hb31⟩
          clear cX0 cX1 cX2 ltX cY0 cY1 cY2 ltY cA0 cA1 cA2 ltA cB0 cB1 cB2 ltB
          replace CX := Lib.hid (CX.out.after hb31)
          replace CY := Lib.hid (CY.out.after hb31)
          replace CA := Lib.hid (CA.out.after hb31)
          replace CB := Lib.hid (CB.out.after hb31)
          replace FX := Lib.hid (FX.out.after hb31)
          replace FY := Lib.hid (FY.out.after hb31)
          replace FA := Lib.hid (FA.out.after hb31)
          replace FB := Lib.hid (FB.out.after hb31)
          replace HB := Lib.hid (HB.out.trans (hb31.mono HB.out.size))
          clear hb31
          obtain ⟨cX0, cX1, cX2⟩ := CX.out.cells3
          have ltX := CX.out.lt
          obtain ⟨cY0, cY1, cY2⟩ := CY.out.cells3
          have ltY := CY.out.lt
          obtain ⟨cA0, cA1, cA2⟩ := CA.out.cells3
          have ltA := CA.out.lt
          obtain ⟨cB0, cB1, cB2⟩ := CB.out.cells3
          have ltB := CB.out.lt
          go_wp2_with fail
          refine (rCmp_c _ _ _ X Y FA.out FB.out).mono ?_
          rw [HCM.out]
          rintro e w32 ⟨rfl, hb32⟩
          clear cX0 cX1 cX2 ltX cY0 cY1 cY2 ltY cA0 cA1 cA2 ltA cB0 cB1 cB2 ltB
          replace CX := Lib.hid (CX.out.after hb32)
          replace CY := Lib.hid (CY.out.after hb32)
          replace CA := Lib.hid (CA.out.after hb32)
          replace CB := Lib.hid (CB.out.after hb32)
          replace FX := Lib.hid (FX.out.after hb32)
          replace FY := Lib.hid (FY.out.after hb32)
          replace FA := Lib.hid (FA.out.after hb32)
          replace FB := Lib.hid (FB.out.after hb32)
          replace HB := Lib.hid (HB.out.trans (hb32.mono HB.out.size))
          clear hb32
          obtain ⟨cX0, cX1, cX2⟩ := CX.out.cells3
          have ltX := CX.out.lt
          obtain ⟨cY0, cY1, cY2⟩ := CY.out.cells3
          have ltY := CY.out.lt
          obtain ⟨cA0, cA1, cA2⟩ := CA.out.cells3
          have ltA := CA.out.lt
          obtain ⟨cB0, cB1, cB2⟩ := CB.out.cells3
          have ltB := CB.out.lt
          go_wp2_with fail
          refine (same_yes _ _ _ X FX.out FA.out).mono ?_
          rintro e w33 ⟨rfl, hb33⟩
          clear cX0 cX1 cX2 ltX cY0 cY1 cY2 ltY cA0 cA1 cA2 ltA cB0 cB1 cB2 ltB
          replace CX := Lib.hid (CX.out.after hb33)
          replace CY := Lib.hid (CY.out.after hb33)
          replace CA := Lib.hid (CA.out.after hb33)
          replace CB := Lib.hid (CB.out.after hb33)
          replace FX := Lib.hid (FX.out.after hb33)
          replace FY := Lib.hid (FY.out.after hb33)
          replace FA := Lib.hid (FA.out.after hb33)
          replace FB := Lib.hid (FB.out.after hb33)
          replace HB := Lib.hid (HB.out.trans (hb33.mono HB.out.size))
          clear hb33
          obtain ⟨cX0, cX1, cX2⟩ := CX.out.cells3
          have ltX := CX.out.lt
          obtain ⟨cY0, cY1, cY2⟩ := CY.out.cells3
          have ltY := CY.out.lt
          obtain ⟨cA0, cA1, cA2⟩ := CA.out.cells3
          have ltA := CA.out.lt
          obtain ⟨cB0, cB1, cB2⟩ := CB.out.cells3
          have ltB := CB.out.lt
          go_wp2_with fail
          refine (same_yes _ _ _ Y FY.out FB.out).mono ?_
          rintro e w34 ⟨rfl, hb34⟩
          clear cX0 cX1 cX2 ltX cY0 cY1 cY2 ltY cA0 cA1 cA2 ltA cB0 cB1 cB2 ltB
          replace CX := Lib.hid (CX.out.after hb34)
          replace CY := Lib.hid (CY.out.after hb34)
          replace CA := Lib.hid (CA.out.after hb34)
          replace CB := Lib.hid (CB.out.after hb34)
          replace FX := Lib.hid (FX.out.after hb34)
          replace FY := Lib.hid (FY.out.after hb34)
          replace FA := Lib.hid (FA.out.after hb34)
          replace FB := Lib.hid (FB.out.after hb34)
          replace HB := Lib.hid (HB.out.trans (hb34.mono HB.out.size))
          clear hb34
          obtain ⟨cX0, cX1, cX2⟩ := CX.out.cells3
          have ltX := CX.out.lt
          obtain ⟨cY0, cY1, cY2⟩ := CY.out.cells3
          have ltY := CY.out.lt
          obtain ⟨cA0, cA1, cA2⟩ := CA.out.cells3
          have ltA := CA.out.lt
          obtain ⟨cB0, cB1, cB2⟩ := CB.out.cells3
          have ltB := CB.out.lt
          go_wp2_with fail
          refine (rworks_c _).mono ?_
          rintro e w35 ⟨rfl, hb35⟩
          clear cX0 cX1 cX2 ltX cY0 cY1 cY2 ltY cA0 cA1 cA2 ltA cB0 cB1 cB2 ltB
          replace CX := Lib.hid (CX.out.after hb35)
          replace CY := Lib.hid (CY.out.after hb35)
          replace CA := Lib.hid (CA.out.after hb35)
          replace CB := Lib.hid (CB.out.after hb35)
          replace FX := Lib.hid (FX.out.after hb35)
          replace FY := Lib.hid (FY.out.after hb35)
          replace FA := Lib.hid (FA.out.after hb35)
          replace FB := Lib.hid (FB.out.after hb35)
          replace HB := Lib.hid (HB.out.trans (hb35.mono HB.out.size))
          clear hb35
          obtain ⟨cX0, cX1, cX2⟩ := CX.out.cells3
          have ltX := CX.out.lt
          obtain ⟨cY0, cY1, cY2⟩ := CY.out.cells3
          have ltY := CY.out.lt
          obtain ⟨cA0, cA1, cA2⟩ := CA.out.cells3
          have ltA := CA.out.lt
          obtain ⟨cB0, cB1, cB2⟩ := CB.out.cells3
          have ltB := CB.out.lt
          go_wp2_with fail
          go_ret
          exact ⟨rfl, HB.out⟩
end Go.Proofs.Ytaojdlcailpheaa
