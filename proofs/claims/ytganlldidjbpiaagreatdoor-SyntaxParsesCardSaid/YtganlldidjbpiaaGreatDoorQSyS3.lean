/- Syntax, the reference: Equal, of equal trees. -/
import Derived.Test.YtganlldidjbpiaaGreatDoorK24
set_option linter.unusedVariables false
namespace Go.Proofs.YtganlldidjbpiaaGreatDoor
open Go.RowKit Go.Shelf

set_option maxRecDepth 100000 in
set_option maxHeartbeats 8000000 in
theorem requal_r6 (ops : Array Oper) (hops : (Tryz.f12.body.bind (regOf 6)) = some ops) {ba oa bb ob n ca cb i ni ci cj : Nat} {qi qj : Option Addr} {z : Int} {wr : World} {Q : Exit → Act → World → Prop} {x2 x3 x4 x6 x7 x8 x9 x10 x11 x12 x13 x14 x15 x16 x17 x18 x19 x20 x21 x22 x23 x24 x25 x26 x27 x28 x29 x30 x31 x32 x33 x34 x35 x36 x37 x38 x39 x40 : Value} (hi : i < n)
    (hx6 : wr.cell? ⟨ba, oa + i * 8 + 6, none⟩ = some (.slice qi ni ci)) (hx7 : wr.cell? ⟨ba, oa + i * 8 + 7, none⟩ = some (.int .i64 z)) (hy6 : wr.cell? ⟨bb, ob + i * 8 + 6, none⟩ = some (.slice qj ni cj)) (hy7 : wr.cell? ⟨bb, ob + i * 8 + 7, none⟩ = some (.int .i64 z))
    (hIH : ∀ W, Below wr.heap.size wr W → Calls Tryz.prog 12 #[.slice qi ni ci, .slice qj ni cj] W (RetB W true))
    (hQ : ∀ (W : World) (y16 y17 y18 y19 y20 y21 y22 y23 y24 y25 y26 y27 y28 y29 y30 y31 y32 y33 y34 y35 y36 y37 y38 y39 : Value), Below wr.heap.size wr W → Q .normal ⟨[.slice (some ⟨ba, oa, none⟩) n ca, .slice (some ⟨bb, ob, none⟩) n cb, x2, x3, x4, .int .i64 (i : Int), x6, x7, x8, x9, x10, x11, x12, x13, x14, x15, y16, y17, y18, y19, y20, y21, y22, y23, y24, y25, y26, y27, y28, y29, y30, y31, y32, y33, y34, y35, y36, y37, y38, y39, .bool false].toArray, []⟩ W) :
    (Code.region 6 ops true).wp Tryz.prog Q ⟨[.slice (some ⟨ba, oa, none⟩) n ca, .slice (some ⟨bb, ob, none⟩) n cb, x2, x3, x4, .int .i64 (i : Int), x6, x7, x8, x9, x10, x11, x12, x13, x14, x15, x16, x17, x18, x19, x20, x21, x22, x23, x24, x25, x26, x27, x28, x29, x30, x31, x32, x33, x34, x35, x36, x37, x38, x39, x40].toArray, []⟩ wr := by
  simp only [Tryz.f12, Option.bind_some, regOf] at hops
  replace hops := Option.some.inj hops
  subst hops
  replace hQ := Lib.hid hQ
  replace hIH := Lib.hid hIH
  have Q1 : Hid ((i : Int) < (n : Int)) := by show _ < _; omega
  have Q2 : Hid (decide ((n : Int) ≤ (i : Int)) = false) := decide_eq_false (by omega)
  have Q3 : Hid ((0 : Int) ≤ (i : Int)) := by show _ ≤ _; omega
  refine wp_gj_tail (S := SKS (S := (fun _ => False)) (fun κ => match κ with | 0 => KS.eq (.slice (some ⟨ba, oa, none⟩) n ca) | 1 => KS.eq (.int .i64 (i : Int)) | 2 => KS.eq (.pointer (some ⟨ba, oa + i * 8, none⟩)) | 3 => KS.eq (.pointer (some ⟨ba, oa + i * 8 + 7, none⟩)) | 4 => KS.eq (.int .i64 z) | 5 => KS.eq (.slice (some ⟨bb, ob, none⟩) n cb) | 6 => KS.eq (.int .i64 (i : Int)) | 7 => KS.eq (.pointer (some ⟨bb, ob + i * 8, none⟩)) | 8 => KS.eq (.pointer (some ⟨bb, ob + i * 8 + 7, none⟩)) | 9 => KS.eq (.int .i64 z) | 10 => KS.eq (.bool false) | 11 => KS.eq (.bool false) | 12 => KS.eq (.slice (some ⟨ba, oa, none⟩) n ca) | 13 => KS.eq (.int .i64 (i : Int)) | 14 => KS.eq (.pointer (some ⟨ba, oa + i * 8, none⟩)) | 15 => KS.eq (.pointer (some ⟨ba, oa + i * 8 + 6, none⟩)) | 16 => KS.eq (.slice qi ni ci) | 17 => KS.eq (.slice (some ⟨bb, ob, none⟩) n cb) | 18 => KS.eq (.int .i64 (i : Int)) | 19 => KS.eq (.pointer (some ⟨bb, ob + i * 8, none⟩)) | 20 => KS.eq (.pointer (some ⟨bb, ob + i * 8 + 6, none⟩)) | 21 => KS.eq (.slice qj ni cj) | _ => KS.any)) (C := fun _ _ u => Below wr.heap.size wr u) 22 (by kernel_rfl) (by decide) (by kernel_rfl) (by kernel_rfl) ?_ ?_ (GJ.start (below_dr (Below.refl _ _)))
  · intro listed a w9 i hin hr hj
    obtain ⟨hi12, hun, _, _, _⟩ := ready_mem hr
    have h12 : i ∈ List.range 22 := List.mem_range.2 hin
    simp only [List.range, List.range.loop, List.mem_cons, List.not_mem_nil, or_false] at h12
    obtain ⟨f, hae, hcm, hf⟩ := hj.opened [16, 17, 18, 19, 20, 21, 22, 23, 24, 25, 26, 27, 28, 29, 30, 31, 32, 33, 34, 35, 36, 37, 38, 39, 40] (by kernel_rfl)
    simp only [List.foldl_cons, List.foldl_nil, List.setIfInBounds_toArray, List.set_cons_zero, List.set_cons_succ] at hae
    subst hae
    replace hcm : Below wr.heap.size wr w9 := hcm
    rcases h12 with rfl | rfl | rfl | rfl | rfl | rfl | rfl | rfl | rfl | rfl | rfl | rfl | rfl | rfl | rfl | rfl | rfl | rfl | rfl | rfl | rfl | rfl
    · refine GJ.op hj (by kernel_rfl) hr rfl [16, 17, 18, 19, 20, 21, 22, 23, 24, 25, 26, 27, 28, 29, 30, 31, 32, 33, 34, 35, 36, 37, 38, 39, 40] (by kernel_rfl) (fun K hK => ?_)
      simp only [Act.put, List.setIfInBounds_toArray] at hK ⊢
      clear hj hf
      go_simp
      exact hK _ _ (fun k v _ _ h => h) (fun t ht => rfl) (hcm.trans ((Below.refl _ _).mono hcm.size))
    · refine GJ.op hj (by kernel_rfl) hr rfl [16, 17, 18, 19, 20, 21, 22, 23, 24, 25, 26, 27, 28, 29, 30, 31, 32, 33, 34, 35, 36, 37, 38, 39, 40] (by kernel_rfl) (fun K hK => ?_)
      simp only [Act.put, List.setIfInBounds_toArray] at hK ⊢
      clear hj hf
      go_simp
      exact hK _ _ (fun k v _ _ h => h) (fun t ht => rfl) (hcm.trans ((Below.refl _ _).mono hcm.size))
    · have e1 : f 16 = .slice (some ⟨ba, oa, none⟩) n ca := hf 0 _ _ rfl rfl (up_dep hr (by kernel_rfl))
      have e2 : f 17 = .int .i64 (i : Int) := hf 1 _ _ rfl rfl (up_dep hr (by kernel_rfl))
      have q1 := Q1.out
      have q2 := Q2.out
      have q3 := Q3.out
      refine GJ.op hj (by kernel_rfl) hr rfl [16, 17, 18, 19, 20, 21, 22, 23, 24, 25, 26, 27, 28, 29, 30, 31, 32, 33, 34, 35, 36, 37, 38, 39, 40] (by kernel_rfl) (fun K hK => ?_)
      simp only [Act.put, List.setIfInBounds_toArray] at hK ⊢
      clear hj hf
      rw [e1, e2] at hK ⊢
      clear e1 e2
      go_simp
      exact hK _ _ (fun k v _ _ h => h) (fun t ht => rfl) (hcm.trans ((Below.refl _ _).mono hcm.size))
    · have e1 : f 18 = .pointer (some ⟨ba, oa + i * 8, none⟩) := hf 2 _ _ rfl rfl (up_dep hr (by kernel_rfl))
      have kc := keep_cell hcm hx7
      have kl := World.block_lt_of_cell? _ _ kc
      simp only at kl
      refine GJ.op hj (by kernel_rfl) hr rfl [16, 17, 18, 19, 20, 21, 22, 23, 24, 25, 26, 27, 28, 29, 30, 31, 32, 33, 34, 35, 36, 37, 38, 39, 40] (by kernel_rfl) (fun K hK => ?_)
      simp only [Act.put, List.setIfInBounds_toArray] at hK ⊢
      clear hj hf
      rw [e1] at hK ⊢
      clear e1
      go_simp
      exact hK _ _ (fun k v _ _ h => h) (fun t ht => rfl) (hcm.trans ((Below.refl _ _).mono hcm.size))
    · have e1 : f 19 = .pointer (some ⟨ba, oa + i * 8 + 7, none⟩) := hf 3 _ _ rfl rfl (up_dep hr (by kernel_rfl))
      have kc := keep_cell hcm hx7
      have kl := World.block_lt_of_cell? _ _ kc
      simp only at kl
      refine GJ.op hj (by kernel_rfl) hr rfl [16, 17, 18, 19, 20, 21, 22, 23, 24, 25, 26, 27, 28, 29, 30, 31, 32, 33, 34, 35, 36, 37, 38, 39, 40] (by kernel_rfl) (fun K hK => ?_)
      simp only [Act.put, List.setIfInBounds_toArray] at hK ⊢
      clear hj hf
      rw [e1] at hK ⊢
      clear e1
      go_simp
      exact hK _ _ (fun k v _ _ h => h) (fun t ht => rfl) (hcm.trans ((Below.refl _ _).mono hcm.size))
    · refine GJ.op hj (by kernel_rfl) hr rfl [16, 17, 18, 19, 20, 21, 22, 23, 24, 25, 26, 27, 28, 29, 30, 31, 32, 33, 34, 35, 36, 37, 38, 39, 40] (by kernel_rfl) (fun K hK => ?_)
      simp only [Act.put, List.setIfInBounds_toArray] at hK ⊢
      clear hj hf
      go_simp
      exact hK _ _ (fun k v _ _ h => h) (fun t ht => rfl) (hcm.trans ((Below.refl _ _).mono hcm.size))
    · refine GJ.op hj (by kernel_rfl) hr rfl [16, 17, 18, 19, 20, 21, 22, 23, 24, 25, 26, 27, 28, 29, 30, 31, 32, 33, 34, 35, 36, 37, 38, 39, 40] (by kernel_rfl) (fun K hK => ?_)
      simp only [Act.put, List.setIfInBounds_toArray] at hK ⊢
      clear hj hf
      go_simp
      exact hK _ _ (fun k v _ _ h => h) (fun t ht => rfl) (hcm.trans ((Below.refl _ _).mono hcm.size))
    · have e1 : f 21 = .slice (some ⟨bb, ob, none⟩) n cb := hf 5 _ _ rfl rfl (up_dep hr (by kernel_rfl))
      have e2 : f 22 = .int .i64 (i : Int) := hf 6 _ _ rfl rfl (up_dep hr (by kernel_rfl))
      have q1 := Q1.out
      have q2 := Q2.out
      have q3 := Q3.out
      refine GJ.op hj (by kernel_rfl) hr rfl [16, 17, 18, 19, 20, 21, 22, 23, 24, 25, 26, 27, 28, 29, 30, 31, 32, 33, 34, 35, 36, 37, 38, 39, 40] (by kernel_rfl) (fun K hK => ?_)
      simp only [Act.put, List.setIfInBounds_toArray] at hK ⊢
      clear hj hf
      rw [e1, e2] at hK ⊢
      clear e1 e2
      go_simp
      exact hK _ _ (fun k v _ _ h => h) (fun t ht => rfl) (hcm.trans ((Below.refl _ _).mono hcm.size))
    · have e1 : f 23 = .pointer (some ⟨bb, ob + i * 8, none⟩) := hf 7 _ _ rfl rfl (up_dep hr (by kernel_rfl))
      have kc := keep_cell hcm hy7
      have kl := World.block_lt_of_cell? _ _ kc
      simp only at kl
      refine GJ.op hj (by kernel_rfl) hr rfl [16, 17, 18, 19, 20, 21, 22, 23, 24, 25, 26, 27, 28, 29, 30, 31, 32, 33, 34, 35, 36, 37, 38, 39, 40] (by kernel_rfl) (fun K hK => ?_)
      simp only [Act.put, List.setIfInBounds_toArray] at hK ⊢
      clear hj hf
      rw [e1] at hK ⊢
      clear e1
      go_simp
      exact hK _ _ (fun k v _ _ h => h) (fun t ht => rfl) (hcm.trans ((Below.refl _ _).mono hcm.size))
    · have e1 : f 24 = .pointer (some ⟨bb, ob + i * 8 + 7, none⟩) := hf 8 _ _ rfl rfl (up_dep hr (by kernel_rfl))
      have kc := keep_cell hcm hy7
      have kl := World.block_lt_of_cell? _ _ kc
      simp only at kl
      refine GJ.op hj (by kernel_rfl) hr rfl [16, 17, 18, 19, 20, 21, 22, 23, 24, 25, 26, 27, 28, 29, 30, 31, 32, 33, 34, 35, 36, 37, 38, 39, 40] (by kernel_rfl) (fun K hK => ?_)
      simp only [Act.put, List.setIfInBounds_toArray] at hK ⊢
      clear hj hf
      rw [e1] at hK ⊢
      clear e1
      go_simp
      exact hK _ _ (fun k v _ _ h => h) (fun t ht => rfl) (hcm.trans ((Below.refl _ _).mono hcm.size))
    · have e1 : f 20 = .int .i64 z := hf 4 _ _ rfl rfl (up_dep hr (by kernel_rfl))
      have e2 : f 25 = .int .i64 z := hf 9 _ _ rfl rfl (up_dep hr (by kernel_rfl))
      refine GJ.op hj (by kernel_rfl) hr rfl [16, 17, 18, 19, 20, 21, 22, 23, 24, 25, 26, 27, 28, 29, 30, 31, 32, 33, 34, 35, 36, 37, 38, 39, 40] (by kernel_rfl) (fun K hK => ?_)
      simp only [Act.put, List.setIfInBounds_toArray] at hK ⊢
      clear hj hf
      rw [e1, e2] at hK ⊢
      clear e1 e2
      go_simp
      exact hK _ _ (fun k v _ _ h => h) (fun t ht => rfl) (hcm.trans ((Below.refl _ _).mono hcm.size))
    · have e1 : f 26 = .bool false := hf 10 _ _ rfl rfl (up_dep hr (by kernel_rfl))
      refine GJ.op hj (by kernel_rfl) hr rfl [16, 17, 18, 19, 20, 21, 22, 23, 24, 25, 26, 27, 28, 29, 30, 31, 32, 33, 34, 35, 36, 37, 38, 39, 40] (by kernel_rfl) (fun K hK => ?_)
      simp only [Act.put, List.setIfInBounds_toArray] at hK ⊢
      clear hj hf
      rw [e1] at hK ⊢
      clear e1
      go_simp
      exact hK _ _ (fun k v _ _ h => h) (fun t ht => rfl) (hcm.trans ((Below.refl _ _).mono hcm.size))
    · have gg : f 27 = .bool false := hf 11 _ _ rfl rfl (up_dep hr (by kernel_rfl))
      refine GJ.yes hj (by kernel_rfl) hr rfl [16, 17, 18, 19, 20, 21, 22, 23, 24, 25, 26, 27, 28, 29, 30, 31, 32, 33, 34, 35, 36, 37, 38, 39, 40] (by kernel_rfl) rfl (j := 11) rfl rfl (c := false) gg rfl (fun K hK => ?_)
      clear gg
      simp only [Act.put, List.setIfInBounds_toArray] at hK ⊢
      clear hj hf
      go_simp
      exact hK _ _ (fun k v _ _ h => h) (fun t ht => rfl) (hcm.trans ((Below.refl _ _).mono hcm.size))
    · have gg : f 27 = .bool false := hf 11 _ _ rfl rfl (up_dep hr (by kernel_rfl))
      refine GJ.yes hj (by kernel_rfl) hr rfl [16, 17, 18, 19, 20, 21, 22, 23, 24, 25, 26, 27, 28, 29, 30, 31, 32, 33, 34, 35, 36, 37, 38, 39, 40] (by kernel_rfl) rfl (j := 11) rfl rfl (c := false) gg rfl (fun K hK => ?_)
      clear gg
      simp only [Act.put, List.setIfInBounds_toArray] at hK ⊢
      clear hj hf
      go_simp
      exact hK _ _ (fun k v _ _ h => h) (fun t ht => rfl) (hcm.trans ((Below.refl _ _).mono hcm.size))
    · have gg : f 27 = .bool false := hf 11 _ _ rfl rfl (up_dep hr (by kernel_rfl))
      have e1 : f 28 = .slice (some ⟨ba, oa, none⟩) n ca := hf 12 _ _ rfl rfl (up_dep hr (by kernel_rfl))
      have e2 : f 29 = .int .i64 (i : Int) := hf 13 _ _ rfl rfl (up_dep hr (by kernel_rfl))
      have q1 := Q1.out
      have q2 := Q2.out
      have q3 := Q3.out
      refine GJ.yes hj (by kernel_rfl) hr rfl [16, 17, 18, 19, 20, 21, 22, 23, 24, 25, 26, 27, 28, 29, 30, 31, 32, 33, 34, 35, 36, 37, 38, 39, 40] (by kernel_rfl) rfl (j := 11) rfl rfl (c := false) gg rfl (fun K hK => ?_)
      clear gg
      simp only [Act.put, List.setIfInBounds_toArray] at hK ⊢
      clear hj hf
      rw [e1, e2] at hK ⊢
      clear e1 e2
      go_simp
      exact hK _ _ (fun k v _ _ h => h) (fun t ht => rfl) (hcm.trans ((Below.refl _ _).mono hcm.size))
    · have gg : f 27 = .bool false := hf 11 _ _ rfl rfl (up_dep hr (by kernel_rfl))
      have e1 : f 30 = .pointer (some ⟨ba, oa + i * 8, none⟩) := hf 14 _ _ rfl rfl (up_dep hr (by kernel_rfl))
      have kc := keep_cell hcm hx7
      have kl := World.block_lt_of_cell? _ _ kc
      simp only at kl
      refine GJ.yes hj (by kernel_rfl) hr rfl [16, 17, 18, 19, 20, 21, 22, 23, 24, 25, 26, 27, 28, 29, 30, 31, 32, 33, 34, 35, 36, 37, 38, 39, 40] (by kernel_rfl) rfl (j := 11) rfl rfl (c := false) gg rfl (fun K hK => ?_)
      clear gg
      simp only [Act.put, List.setIfInBounds_toArray] at hK ⊢
      clear hj hf
      rw [e1] at hK ⊢
      clear e1
      go_simp
      exact hK _ _ (fun k v _ _ h => h) (fun t ht => rfl) (hcm.trans ((Below.refl _ _).mono hcm.size))
    · have gg : f 27 = .bool false := hf 11 _ _ rfl rfl (up_dep hr (by kernel_rfl))
      have e1 : f 31 = .pointer (some ⟨ba, oa + i * 8 + 6, none⟩) := hf 15 _ _ rfl rfl (up_dep hr (by kernel_rfl))
      have kc := keep_cell hcm hx6
      have kl := World.block_lt_of_cell? _ _ kc
      simp only at kl
      refine GJ.yes hj (by kernel_rfl) hr rfl [16, 17, 18, 19, 20, 21, 22, 23, 24, 25, 26, 27, 28, 29, 30, 31, 32, 33, 34, 35, 36, 37, 38, 39, 40] (by kernel_rfl) rfl (j := 11) rfl rfl (c := false) gg rfl (fun K hK => ?_)
      clear gg
      simp only [Act.put, List.setIfInBounds_toArray] at hK ⊢
      clear hj hf
      rw [e1] at hK ⊢
      clear e1
      go_simp
      exact hK _ _ (fun k v _ _ h => h) (fun t ht => rfl) (hcm.trans ((Below.refl _ _).mono hcm.size))
    · have gg : f 27 = .bool false := hf 11 _ _ rfl rfl (up_dep hr (by kernel_rfl))
      refine GJ.yes hj (by kernel_rfl) hr rfl [16, 17, 18, 19, 20, 21, 22, 23, 24, 25, 26, 27, 28, 29, 30, 31, 32, 33, 34, 35, 36, 37, 38, 39, 40] (by kernel_rfl) rfl (j := 11) rfl rfl (c := false) gg rfl (fun K hK => ?_)
      clear gg
      simp only [Act.put, List.setIfInBounds_toArray] at hK ⊢
      clear hj hf
      go_simp
      exact hK _ _ (fun k v _ _ h => h) (fun t ht => rfl) (hcm.trans ((Below.refl _ _).mono hcm.size))
    · have gg : f 27 = .bool false := hf 11 _ _ rfl rfl (up_dep hr (by kernel_rfl))
      refine GJ.yes hj (by kernel_rfl) hr rfl [16, 17, 18, 19, 20, 21, 22, 23, 24, 25, 26, 27, 28, 29, 30, 31, 32, 33, 34, 35, 36, 37, 38, 39, 40] (by kernel_rfl) rfl (j := 11) rfl rfl (c := false) gg rfl (fun K hK => ?_)
      clear gg
      simp only [Act.put, List.setIfInBounds_toArray] at hK ⊢
      clear hj hf
      go_simp
      exact hK _ _ (fun k v _ _ h => h) (fun t ht => rfl) (hcm.trans ((Below.refl _ _).mono hcm.size))
    · have gg : f 27 = .bool false := hf 11 _ _ rfl rfl (up_dep hr (by kernel_rfl))
      have e1 : f 33 = .slice (some ⟨bb, ob, none⟩) n cb := hf 17 _ _ rfl rfl (up_dep hr (by kernel_rfl))
      have e2 : f 34 = .int .i64 (i : Int) := hf 18 _ _ rfl rfl (up_dep hr (by kernel_rfl))
      have q1 := Q1.out
      have q2 := Q2.out
      have q3 := Q3.out
      refine GJ.yes hj (by kernel_rfl) hr rfl [16, 17, 18, 19, 20, 21, 22, 23, 24, 25, 26, 27, 28, 29, 30, 31, 32, 33, 34, 35, 36, 37, 38, 39, 40] (by kernel_rfl) rfl (j := 11) rfl rfl (c := false) gg rfl (fun K hK => ?_)
      clear gg
      simp only [Act.put, List.setIfInBounds_toArray] at hK ⊢
      clear hj hf
      rw [e1, e2] at hK ⊢
      clear e1 e2
      go_simp
      exact hK _ _ (fun k v _ _ h => h) (fun t ht => rfl) (hcm.trans ((Below.refl _ _).mono hcm.size))
    · have gg : f 27 = .bool false := hf 11 _ _ rfl rfl (up_dep hr (by kernel_rfl))
      have e1 : f 35 = .pointer (some ⟨bb, ob + i * 8, none⟩) := hf 19 _ _ rfl rfl (up_dep hr (by kernel_rfl))
      have kc := keep_cell hcm hy7
      have kl := World.block_lt_of_cell? _ _ kc
      simp only at kl
      refine GJ.yes hj (by kernel_rfl) hr rfl [16, 17, 18, 19, 20, 21, 22, 23, 24, 25, 26, 27, 28, 29, 30, 31, 32, 33, 34, 35, 36, 37, 38, 39, 40] (by kernel_rfl) rfl (j := 11) rfl rfl (c := false) gg rfl (fun K hK => ?_)
      clear gg
      simp only [Act.put, List.setIfInBounds_toArray] at hK ⊢
      clear hj hf
      rw [e1] at hK ⊢
      clear e1
      go_simp
      exact hK _ _ (fun k v _ _ h => h) (fun t ht => rfl) (hcm.trans ((Below.refl _ _).mono hcm.size))
    · have gg : f 27 = .bool false := hf 11 _ _ rfl rfl (up_dep hr (by kernel_rfl))
      have e1 : f 36 = .pointer (some ⟨bb, ob + i * 8 + 6, none⟩) := hf 20 _ _ rfl rfl (up_dep hr (by kernel_rfl))
      have kc := keep_cell hcm hy6
      have kl := World.block_lt_of_cell? _ _ kc
      simp only at kl
      refine GJ.yes hj (by kernel_rfl) hr rfl [16, 17, 18, 19, 20, 21, 22, 23, 24, 25, 26, 27, 28, 29, 30, 31, 32, 33, 34, 35, 36, 37, 38, 39, 40] (by kernel_rfl) rfl (j := 11) rfl rfl (c := false) gg rfl (fun K hK => ?_)
      clear gg
      simp only [Act.put, List.setIfInBounds_toArray] at hK ⊢
      clear hj hf
      rw [e1] at hK ⊢
      clear e1
      go_simp
      exact hK _ _ (fun k v _ _ h => h) (fun t ht => rfl) (hcm.trans ((Below.refl _ _).mono hcm.size))
  · intro listed a w10 hu hj
    obtain ⟨f, hae, hcm, hf⟩ := hj.opened [16, 17, 18, 19, 20, 21, 22, 23, 24, 25, 26, 27, 28, 29, 30, 31, 32, 33, 34, 35, 36, 37, 38, 39, 40] (by kernel_rfl)
    simp only [List.foldl_cons, List.foldl_nil, List.setIfInBounds_toArray, List.set_cons_zero, List.set_cons_succ] at hae
    subst hae
    replace hcm : Below wr.heap.size wr w10 := hcm
    have E11 : f 27 = .bool false := hf 11 _ _ rfl rfl (hu 11 (by omega))
    have E16 : f 32 = .slice qi ni ci := hf 16 _ _ rfl rfl (hu 16 (by omega))
    have E21 : f 37 = .slice qj ni cj := hf 21 _ _ rfl rfl (hu 21 (by omega))
    have HCM := Lib.hid hcm
    clear hcm hf hj hu
    rw [E11, E16, E21]
    clear E11 E16 E21
    generalize f 16 = g16
    generalize f 17 = g17
    generalize f 18 = g18
    generalize f 19 = g19
    generalize f 20 = g20
    generalize f 21 = g21
    generalize f 22 = g22
    generalize f 23 = g23
    generalize f 24 = g24
    generalize f 25 = g25
    generalize f 26 = g26
    generalize f 28 = g28
    generalize f 29 = g29
    generalize f 30 = g30
    generalize f 31 = g31
    generalize f 33 = g33
    generalize f 34 = g34
    generalize f 35 = g35
    generalize f 36 = g36
    generalize f 38 = g38
    generalize f 39 = g39
    generalize f 40 = g40
    clear f
    simp only [List.drop_succ_cons, List.drop_zero]
    go_wp2_with fail
    refine (hIH.out _ HCM.out).mono ?_
    rintro e w11 ⟨rfl, hb⟩
    have HB := Lib.hid (HCM.out.trans (hb.mono HCM.out.size))
    clear hb
    go_wp2_with fail
    exact hQ.out _ _ _ _ _ _ _ _ _ _ _ _ _ _ _ _ _ _ _ _ _ _ _ _ _ HB.out
theorem eqL_self : ∀ l : List Cl, eqL l l = true := fun l => (eqL_iff l l).2 rfl
set_option maxRecDepth 100000 in
set_option maxHeartbeats 8000000 in
theorem requal_n (D D' : Nat → Prop) : ∀ (n : Nat) (l : List Cl), SizeOf.sizeOf l < n → ∀ (w : World) (v u : Value), SlC D w v l → SlC D' w u l → Calls Tryz.prog 12 #[v, u] w (RetB w true)
  | 0, _, h => absurd h (Nat.not_lt_zero _)
  | n + 1, l, hn => by
    intro w v u h k
    have HS : Hid (∀ i, i < l.length → ∀ (W : World) (v u : Value), SlC D W v (l.getD i cl0).items → SlC D' W u (l.getD i cl0).items → Calls Tryz.prog 12 #[v, u] W (RetB W true)) := fun i hi W v u => requal_n D D' n _ (by have := items_at_lt hi; omega) W v u
    have H := Lib.hid h
    have K := Lib.hid k
    obtain ⟨p, ca, rfl, h1, h2, _⟩ := h.shape
    obtain ⟨q, cb, rfl, k1, k2, _⟩ := k.shape
    clear h k hn
    go_enter Tryz.func12, Tryz.ntmps12
    go_wp2_with fail
    refine (rSame_c D D' w _ _ l l H.out K.out).mono ?_
    rw [eqL_self]
    rintro e w1 ⟨rfl, hb1⟩
    have HB1 := Lib.hid hb1
    replace H := Lib.hid (H.out.after hb1)
    replace K := Lib.hid (K.out.after hb1)
    clear hb1
    go_wp2_with fail
    go_loopg [5] l.length (fun g t wx => ∃ i : Nat, i ≤ l.length ∧ g = l.length - i ∧ t = .int .i64 (i : Int) ∧ Hid (Below w1.heap.size w1 wx))
    case atStart => exact ⟨0, Nat.zero_le _, rfl, rfl, Below.refl _ _⟩
    case round =>
      obtain ⟨i, hi, rfl, rfl, hbl⟩ := hrel
      by_cases hlt : i < l.length
      · obtain ⟨ba, oa, ca, ea, _, _, _, la, hca⟩ := (H.out.after hbl.out).at_ (by omega)
        obtain ⟨bb, ob, cb, eb, _, _, _, lb, hcb⟩ := (K.out.after hbl.out).at_ (by omega)
        injection ea with ea _ ec
        subst ea ec
        injection eb with eb _ ec
        subst eb ec
        obtain ⟨vn, vi, hc, x0, x1, x2, x3, x4, x5, x6, x7⟩ := hca i hlt
        obtain ⟨vm, vj, hd, y0, y1, y2, y3, y4, y5, y6, y7⟩ := hcb i hlt
        have HSi := Lib.hid (HS.out i hlt)
        clear hca hcb
        have il : (i : Int) < (l.length : Int) := by omega
        have i0 : (0 : Int) ≤ (i : Int) := by omega
        obtain ⟨c, hx⟩ : ∃ x, l.getD i cl0 = x := ⟨_, rfl⟩
        rw [hx] at x7 hc HSi y7 hd
        obtain ⟨qi, ci, rfl, _, _, _⟩ := (hasC_iff.1 hc).2.2.shape
        obtain ⟨qj, cj, rfl, _, _, _⟩ := (hasC_iff.1 hd).2.2.shape
        have HIC := Lib.hid (hasC_iff.1 hc).2.2
        have HID := Lib.hid (hasC_iff.1 hd).2.2
        clear hc hd hx x0 x1 x2 x3 x4 x5 y0 y1 y2 y3 y4 y5
        go_wp2_with fail
        refine requal_r6 _ (by kernel_rfl) hlt x6 x7 y6 y7 (fun W hW => HSi.out W _ _ (HIC.out.after hW) (HID.out.after hW)) ?_
        intro W y16 y17 y18 y19 y20 y21 y22 y23 y24 y25 y26 y27 y28 y29 y30 y31 y32 y33 y34 y35 y36 y37 y38 y39 hb
        have HB2 := Lib.hid (hbl.out.trans (hb.mono hbl.out.size))
        clear hb x6 x7 y6 y7
        go_wp2_with fail
        go_roundg (l.length - (i + 1))
        case measure => omega
        case rel => exact ⟨i + 1, by omega, rfl, by go_num, HB2.out⟩
      · obtain rfl : i = l.length := by omega
        go_wp2_with fail
        go_ret
        exact ⟨rfl, HB1.out.trans (hbl.out.mono HB1.out.size)⟩
/-- The reference's Equal, of a tree and itself, wherever they lie. -/
theorem rEqual_yes (D D' : Nat → Prop) (w : World) (v u : Value) (l : List Cl) (h : SlC D w v l) (k : SlC D' w u l) : Calls Tryz.prog 12 #[v, u] w (RetB w true) := requal_n D D' _ l (Nat.lt_succ_self _) w v u h k
end Go.Proofs.YtganlldidjbpiaaGreatDoor
