/- Syntax: Weight of the reference, and small. -/
import Derived.Test.YtganlldidjbpiaaGreatDoorK23
set_option linter.unusedVariables false
namespace Go.Proofs.YtganlldidjbpiaaGreatDoor
open Go.RowKit Go.Shelf

mutual
/-- The clauses and names, as they are counted. -/
def wI (lim : Int) : Cl → Int
  | .mk _ _ _ _ _ _ items _ => wgo lim items 0
def wgo (lim : Int) : List Cl → Int → Int
  | [], n => n
  | c :: r, n => if n ≤ lim then wgo lim r (IntKind.i64.wrap (IntKind.i64.wrap (IntKind.i64.wrap (n + 1) + (c.names.length : Int)) + wI lim c)) else n
end
theorem wI_at (lim : Int) (c : Cl) : wI lim c = wgo lim c.items 0 := by cases c; rw [wI]; rfl
theorem wgo_stop {lim n : Int} (h : ¬ n ≤ lim) : ∀ l : List Cl, wgo lim l n = n
  | [] => by rw [wgo]
  | c :: l => by rw [wgo, if_neg h]
theorem wgo_next {lim n : Int} (l : List Cl) {i : Nat} (hi : i < l.length) (h : n ≤ lim) : wgo lim (l.drop i) n = wgo lim (l.drop (i + 1)) (IntKind.i64.wrap (IntKind.i64.wrap (IntKind.i64.wrap (n + 1) + ((l.getD i cl0).names.length : Int)) + wgo lim (l.getD i cl0).items 0)) := by
  rw [List.drop_eq_getElem_cons hi, wgo, if_pos h, wI_at, List.getD_eq_getElem?_getD, List.getElem?_eq_getElem hi]
  rfl
set_option maxRecDepth 100000 in
set_option maxHeartbeats 8000000 in
theorem weight_r5 (ops : Array Oper) (hops : (Tryz.f25.body.bind (regOf 5)) = some ops) {ba oa m ca i nl cn ni ci : Nat} {qn qi : Option Addr} {lim n z : Int} {wr : World} {Q : Exit → Act → World → Prop} {x2 x3 x4 x7 x8 x9 x10 x11 x12 x13 x14 x15 x16 x17 x18 x19 x20 x21 x22 x23 x24 x25 x26 x27 x28 x29 x30 x31 x32 x33 x34 x35 : Value} (hi : i < m)
    (hx1 : wr.cell? ⟨ba, oa + i * 8 + 1, none⟩ = some (.slice qn nl cn)) (hx6 : wr.cell? ⟨ba, oa + i * 8 + 6, none⟩ = some (.slice qi ni ci))
    (hIH : ∀ W, Below wr.heap.size wr W → Calls Tryz.prog 25 #[.slice qi ni ci, .int .i64 lim] W fun e w' => e = .returned (.int .i64 z) ∧ Below W.heap.size W w')
    (hQ : ∀ (W : World) (y18 y19 y20 y21 y22 y23 y24 y25 y26 y27 y28 y29 y30 y31 y32 y33 y34 : Value), Below wr.heap.size wr W → Q .normal ⟨[.slice (some ⟨ba, oa, none⟩) m ca, .int .i64 lim, x2, x3, x4, .int .i64 (IntKind.i64.wrap (IntKind.i64.wrap (IntKind.i64.wrap (n + 1) + (nl : Int)) + z)), .int .i64 (i : Int), x7, x8, x9, x10, x11, x12, x13, x14, x15, x16, x17, y18, y19, y20, y21, y22, y23, y24, y25, y26, y27, y28, y29, y30, y31, y32, y33, y34, x35].toArray, []⟩ W) :
    (Code.region 5 ops true).wp Tryz.prog Q ⟨[.slice (some ⟨ba, oa, none⟩) m ca, .int .i64 lim, x2, x3, x4, .int .i64 n, .int .i64 (i : Int), x7, x8, x9, x10, x11, x12, x13, x14, x15, x16, x17, x18, x19, x20, x21, x22, x23, x24, x25, x26, x27, x28, x29, x30, x31, x32, x33, x34, x35].toArray, []⟩ wr := by
  simp only [Tryz.f25, Option.bind_some, regOf] at hops
  replace hops := Option.some.inj hops
  subst hops
  replace hQ := Lib.hid hQ
  replace hIH := Lib.hid hIH
  have Q1 : Hid ((i : Int) < (m : Int)) := by show _ < _; omega
  have Q2 : Hid (decide ((m : Int) ≤ (i : Int)) = false) := decide_eq_false (by omega)
  have Q3 : Hid ((0 : Int) ≤ (i : Int)) := by show _ ≤ _; omega
  refine wp_region_gj (J := GJ _ (SKS (S := (fun _ => False)) (fun κ => match κ with | 0 => KS.eq (.int .i64 n) | 1 => KS.eq (.int .i64 (IntKind.i64.wrap (n + 1))) | 2 => KS.eq (.slice (some ⟨ba, oa, none⟩) m ca) | 3 => KS.eq (.int .i64 (i : Int)) | 4 => KS.eq (.pointer (some ⟨ba, oa + i * 8, none⟩)) | 5 => KS.eq (.pointer (some ⟨ba, oa + i * 8 + 1, none⟩)) | 6 => KS.eq (.slice qn nl cn) | 7 => KS.eq (.int .i64 (nl : Int)) | 8 => KS.eq (.int .i64 (IntKind.i64.wrap (IntKind.i64.wrap (n + 1) + (nl : Int)))) | 9 => KS.eq (.slice (some ⟨ba, oa, none⟩) m ca) | 10 => KS.eq (.int .i64 (i : Int)) | 11 => KS.eq (.pointer (some ⟨ba, oa + i * 8, none⟩)) | 12 => KS.eq (.pointer (some ⟨ba, oa + i * 8 + 6, none⟩)) | 13 => KS.eq (.slice qi ni ci) | 14 => KS.eq (.int .i64 lim) | 15 => KS.eq (.int .i64 z) | 16 => KS.eq (.int .i64 (IntKind.i64.wrap (IntKind.i64.wrap (IntKind.i64.wrap (n + 1) + (nl : Int)) + z))) | 17 => KS.eq (.int .i64 (IntKind.i64.wrap (IntKind.i64.wrap (IntKind.i64.wrap (n + 1) + (nl : Int)) + z))) | _ => KS.any)) (fun l f u => Below wr.heap.size wr u ∧ (¬ up l 17 → f 5 = .int .i64 n)) _) (by kernel_rfl) ?_ ?_ (GJ.start ⟨below_dr (Below.refl _ _), fun _ => rfl⟩)
  · intro listed a w9 i hr hj
    obtain ⟨hi12, hun, _, _, _⟩ := ready_mem hr
    have h12 : i ∈ List.range 18 := List.mem_range.2 hi12
    simp only [List.range, List.range.loop, List.mem_cons, List.not_mem_nil, or_false] at h12
    obtain ⟨f, hae, hcm, hf⟩ := hj.opened [18, 19, 20, 21, 22, 23, 24, 25, 26, 27, 28, 29, 30, 31, 32, 33, 34, 5] (by kernel_rfl)
    simp only [List.foldl_cons, List.foldl_nil, List.setIfInBounds_toArray, List.set_cons_zero, List.set_cons_succ] at hae
    subst hae
    replace hcm : Below wr.heap.size wr w9 ∧ (¬ up listed 17 → f 5 = .int .i64 n) := hcm
    have hlsz : listed.size = 18 := hj.lsize
    rcases h12 with rfl | rfl | rfl | rfl | rfl | rfl | rfl | rfl | rfl | rfl | rfl | rfl | rfl | rfl | rfl | rfl | rfl | rfl
    · have e50 : f 5 = .int .i64 n := hcm.2 (fun u => not_up hun (hj.closed 17 0 u (by kernel_rfl)))
      refine GJ.op hj (by kernel_rfl) hr rfl [18, 19, 20, 21, 22, 23, 24, 25, 26, 27, 28, 29, 30, 31, 32, 33, 34, 5] (by kernel_rfl) (fun K hK => ?_)
      simp only [Act.put, List.setIfInBounds_toArray] at hK ⊢
      clear hj hf
      rw [e50] at hK ⊢
      clear e50
      go_simp
      exact hK _ _ (fun k v _ _ h => h) (fun t ht => rfl) ⟨hcm.1.trans ((Below.refl _ _).mono hcm.1.size), fun _ => rfl⟩
    · have e1 : f 18 = .int .i64 n := hf 0 _ _ rfl rfl (up_dep hr (by kernel_rfl))
      refine GJ.op hj (by kernel_rfl) hr rfl [18, 19, 20, 21, 22, 23, 24, 25, 26, 27, 28, 29, 30, 31, 32, 33, 34, 5] (by kernel_rfl) (fun K hK => ?_)
      simp only [Act.put, List.setIfInBounds_toArray] at hK ⊢
      clear hj hf
      rw [e1] at hK ⊢
      clear e1
      go_simp
      exact hK _ _ (fun k v _ _ h => h) (fun t ht => rfl) ⟨hcm.1.trans ((Below.refl _ _).mono hcm.1.size), fun u => hcm.2 (fun u' => u (up_keep u'))⟩
    · refine GJ.op hj (by kernel_rfl) hr rfl [18, 19, 20, 21, 22, 23, 24, 25, 26, 27, 28, 29, 30, 31, 32, 33, 34, 5] (by kernel_rfl) (fun K hK => ?_)
      simp only [Act.put, List.setIfInBounds_toArray] at hK ⊢
      clear hj hf
      go_simp
      exact hK _ _ (fun k v _ _ h => h) (fun t ht => rfl) ⟨hcm.1.trans ((Below.refl _ _).mono hcm.1.size), fun u => hcm.2 (fun u' => u (up_keep u'))⟩
    · refine GJ.op hj (by kernel_rfl) hr rfl [18, 19, 20, 21, 22, 23, 24, 25, 26, 27, 28, 29, 30, 31, 32, 33, 34, 5] (by kernel_rfl) (fun K hK => ?_)
      simp only [Act.put, List.setIfInBounds_toArray] at hK ⊢
      clear hj hf
      go_simp
      exact hK _ _ (fun k v _ _ h => h) (fun t ht => rfl) ⟨hcm.1.trans ((Below.refl _ _).mono hcm.1.size), fun u => hcm.2 (fun u' => u (up_keep u'))⟩
    · have e1 : f 20 = .slice (some ⟨ba, oa, none⟩) m ca := hf 2 _ _ rfl rfl (up_dep hr (by kernel_rfl))
      have e2 : f 21 = .int .i64 (i : Int) := hf 3 _ _ rfl rfl (up_dep hr (by kernel_rfl))
      have q1 := Q1.out
      have q2 := Q2.out
      have q3 := Q3.out
      refine GJ.op hj (by kernel_rfl) hr rfl [18, 19, 20, 21, 22, 23, 24, 25, 26, 27, 28, 29, 30, 31, 32, 33, 34, 5] (by kernel_rfl) (fun K hK => ?_)
      simp only [Act.put, List.setIfInBounds_toArray] at hK ⊢
      clear hj hf
      rw [e1, e2] at hK ⊢
      clear e1 e2
      go_simp
      exact hK _ _ (fun k v _ _ h => h) (fun t ht => rfl) ⟨hcm.1.trans ((Below.refl _ _).mono hcm.1.size), fun u => hcm.2 (fun u' => u (up_keep u'))⟩
    · have e1 : f 22 = .pointer (some ⟨ba, oa + i * 8, none⟩) := hf 4 _ _ rfl rfl (up_dep hr (by kernel_rfl))
      have kc := keep_cell hcm.1 hx1
      have kl := World.block_lt_of_cell? _ _ kc
      simp only at kl
      refine GJ.op hj (by kernel_rfl) hr rfl [18, 19, 20, 21, 22, 23, 24, 25, 26, 27, 28, 29, 30, 31, 32, 33, 34, 5] (by kernel_rfl) (fun K hK => ?_)
      simp only [Act.put, List.setIfInBounds_toArray] at hK ⊢
      clear hj hf
      rw [e1] at hK ⊢
      clear e1
      go_simp
      exact hK _ _ (fun k v _ _ h => h) (fun t ht => rfl) ⟨hcm.1.trans ((Below.refl _ _).mono hcm.1.size), fun u => hcm.2 (fun u' => u (up_keep u'))⟩
    · have e1 : f 23 = .pointer (some ⟨ba, oa + i * 8 + 1, none⟩) := hf 5 _ _ rfl rfl (up_dep hr (by kernel_rfl))
      have kc := keep_cell hcm.1 hx1
      have kl := World.block_lt_of_cell? _ _ kc
      simp only at kl
      refine GJ.op hj (by kernel_rfl) hr rfl [18, 19, 20, 21, 22, 23, 24, 25, 26, 27, 28, 29, 30, 31, 32, 33, 34, 5] (by kernel_rfl) (fun K hK => ?_)
      simp only [Act.put, List.setIfInBounds_toArray] at hK ⊢
      clear hj hf
      rw [e1] at hK ⊢
      clear e1
      go_simp
      exact hK _ _ (fun k v _ _ h => h) (fun t ht => rfl) ⟨hcm.1.trans ((Below.refl _ _).mono hcm.1.size), fun u => hcm.2 (fun u' => u (up_keep u'))⟩
    · have e1 : f 24 = .slice qn nl cn := hf 6 _ _ rfl rfl (up_dep hr (by kernel_rfl))
      refine GJ.op hj (by kernel_rfl) hr rfl [18, 19, 20, 21, 22, 23, 24, 25, 26, 27, 28, 29, 30, 31, 32, 33, 34, 5] (by kernel_rfl) (fun K hK => ?_)
      simp only [Act.put, List.setIfInBounds_toArray] at hK ⊢
      clear hj hf
      rw [e1] at hK ⊢
      clear e1
      go_simp
      exact hK _ _ (fun k v _ _ h => h) (fun t ht => rfl) ⟨hcm.1.trans ((Below.refl _ _).mono hcm.1.size), fun u => hcm.2 (fun u' => u (up_keep u'))⟩
    · have e1 : f 19 = .int .i64 (IntKind.i64.wrap (n + 1)) := hf 1 _ _ rfl rfl (up_dep hr (by kernel_rfl))
      have e2 : f 25 = .int .i64 (nl : Int) := hf 7 _ _ rfl rfl (up_dep hr (by kernel_rfl))
      refine GJ.op hj (by kernel_rfl) hr rfl [18, 19, 20, 21, 22, 23, 24, 25, 26, 27, 28, 29, 30, 31, 32, 33, 34, 5] (by kernel_rfl) (fun K hK => ?_)
      simp only [Act.put, List.setIfInBounds_toArray] at hK ⊢
      clear hj hf
      rw [e1, e2] at hK ⊢
      clear e1 e2
      go_simp
      exact hK _ _ (fun k v _ _ h => h) (fun t ht => rfl) ⟨hcm.1.trans ((Below.refl _ _).mono hcm.1.size), fun u => hcm.2 (fun u' => u (up_keep u'))⟩
    · refine GJ.op hj (by kernel_rfl) hr rfl [18, 19, 20, 21, 22, 23, 24, 25, 26, 27, 28, 29, 30, 31, 32, 33, 34, 5] (by kernel_rfl) (fun K hK => ?_)
      simp only [Act.put, List.setIfInBounds_toArray] at hK ⊢
      clear hj hf
      go_simp
      exact hK _ _ (fun k v _ _ h => h) (fun t ht => rfl) ⟨hcm.1.trans ((Below.refl _ _).mono hcm.1.size), fun u => hcm.2 (fun u' => u (up_keep u'))⟩
    · refine GJ.op hj (by kernel_rfl) hr rfl [18, 19, 20, 21, 22, 23, 24, 25, 26, 27, 28, 29, 30, 31, 32, 33, 34, 5] (by kernel_rfl) (fun K hK => ?_)
      simp only [Act.put, List.setIfInBounds_toArray] at hK ⊢
      clear hj hf
      go_simp
      exact hK _ _ (fun k v _ _ h => h) (fun t ht => rfl) ⟨hcm.1.trans ((Below.refl _ _).mono hcm.1.size), fun u => hcm.2 (fun u' => u (up_keep u'))⟩
    · have e1 : f 27 = .slice (some ⟨ba, oa, none⟩) m ca := hf 9 _ _ rfl rfl (up_dep hr (by kernel_rfl))
      have e2 : f 28 = .int .i64 (i : Int) := hf 10 _ _ rfl rfl (up_dep hr (by kernel_rfl))
      have q1 := Q1.out
      have q2 := Q2.out
      have q3 := Q3.out
      refine GJ.op hj (by kernel_rfl) hr rfl [18, 19, 20, 21, 22, 23, 24, 25, 26, 27, 28, 29, 30, 31, 32, 33, 34, 5] (by kernel_rfl) (fun K hK => ?_)
      simp only [Act.put, List.setIfInBounds_toArray] at hK ⊢
      clear hj hf
      rw [e1, e2] at hK ⊢
      clear e1 e2
      go_simp
      exact hK _ _ (fun k v _ _ h => h) (fun t ht => rfl) ⟨hcm.1.trans ((Below.refl _ _).mono hcm.1.size), fun u => hcm.2 (fun u' => u (up_keep u'))⟩
    · have e1 : f 29 = .pointer (some ⟨ba, oa + i * 8, none⟩) := hf 11 _ _ rfl rfl (up_dep hr (by kernel_rfl))
      have kc := keep_cell hcm.1 hx6
      have kl := World.block_lt_of_cell? _ _ kc
      simp only at kl
      refine GJ.op hj (by kernel_rfl) hr rfl [18, 19, 20, 21, 22, 23, 24, 25, 26, 27, 28, 29, 30, 31, 32, 33, 34, 5] (by kernel_rfl) (fun K hK => ?_)
      simp only [Act.put, List.setIfInBounds_toArray] at hK ⊢
      clear hj hf
      rw [e1] at hK ⊢
      clear e1
      go_simp
      exact hK _ _ (fun k v _ _ h => h) (fun t ht => rfl) ⟨hcm.1.trans ((Below.refl _ _).mono hcm.1.size), fun u => hcm.2 (fun u' => u (up_keep u'))⟩
    · have e1 : f 30 = .pointer (some ⟨ba, oa + i * 8 + 6, none⟩) := hf 12 _ _ rfl rfl (up_dep hr (by kernel_rfl))
      have kc := keep_cell hcm.1 hx6
      have kl := World.block_lt_of_cell? _ _ kc
      simp only at kl
      refine GJ.op hj (by kernel_rfl) hr rfl [18, 19, 20, 21, 22, 23, 24, 25, 26, 27, 28, 29, 30, 31, 32, 33, 34, 5] (by kernel_rfl) (fun K hK => ?_)
      simp only [Act.put, List.setIfInBounds_toArray] at hK ⊢
      clear hj hf
      rw [e1] at hK ⊢
      clear e1
      go_simp
      exact hK _ _ (fun k v _ _ h => h) (fun t ht => rfl) ⟨hcm.1.trans ((Below.refl _ _).mono hcm.1.size), fun u => hcm.2 (fun u' => u (up_keep u'))⟩
    · refine GJ.op hj (by kernel_rfl) hr rfl [18, 19, 20, 21, 22, 23, 24, 25, 26, 27, 28, 29, 30, 31, 32, 33, 34, 5] (by kernel_rfl) (fun K hK => ?_)
      simp only [Act.put, List.setIfInBounds_toArray] at hK ⊢
      clear hj hf
      go_simp
      exact hK _ _ (fun k v _ _ h => h) (fun t ht => rfl) ⟨hcm.1.trans ((Below.refl _ _).mono hcm.1.size), fun u => hcm.2 (fun u' => u (up_keep u'))⟩
    · have e1 : f 31 = .slice qi ni ci := hf 13 _ _ rfl rfl (up_dep hr (by kernel_rfl))
      have e2 : f 32 = .int .i64 lim := hf 14 _ _ rfl rfl (up_dep hr (by kernel_rfl))
      refine GJ.op hj (by kernel_rfl) hr rfl [18, 19, 20, 21, 22, 23, 24, 25, 26, 27, 28, 29, 30, 31, 32, 33, 34, 5] (by kernel_rfl) (fun K hK => ?_)
      simp only [Act.put, List.setIfInBounds_toArray] at hK ⊢
      clear hj hf
      rw [e1, e2] at hK ⊢
      clear e1 e2
      go_simp
      refine (hIH.out w9 hcm.1).mono ?_
      rintro e w10 ⟨rfl, hb10⟩
      exact hK _ _ (fun k v _ _ h => KS.st _ _ _ _ (Fx.of_below hb10) h) (fun t ht => rfl) ⟨hcm.1.trans (hb10.mono hcm.1.size), fun u => hcm.2 (fun u' => u (up_keep u'))⟩
    · have e1 : f 26 = .int .i64 (IntKind.i64.wrap (IntKind.i64.wrap (n + 1) + (nl : Int))) := hf 8 _ _ rfl rfl (up_dep hr (by kernel_rfl))
      have e2 : f 33 = .int .i64 z := hf 15 _ _ rfl rfl (up_dep hr (by kernel_rfl))
      refine GJ.op hj (by kernel_rfl) hr rfl [18, 19, 20, 21, 22, 23, 24, 25, 26, 27, 28, 29, 30, 31, 32, 33, 34, 5] (by kernel_rfl) (fun K hK => ?_)
      simp only [Act.put, List.setIfInBounds_toArray] at hK ⊢
      clear hj hf
      rw [e1, e2] at hK ⊢
      clear e1 e2
      go_simp
      exact hK _ _ (fun k v _ _ h => h) (fun t ht => rfl) ⟨hcm.1.trans ((Below.refl _ _).mono hcm.1.size), fun u => hcm.2 (fun u' => u (up_keep u'))⟩
    · have e1 : f 34 = .int .i64 (IntKind.i64.wrap (IntKind.i64.wrap (IntKind.i64.wrap (n + 1) + (nl : Int)) + z)) := hf 16 _ _ rfl rfl (up_dep hr (by kernel_rfl))
      refine GJ.op hj (by kernel_rfl) hr rfl [18, 19, 20, 21, 22, 23, 24, 25, 26, 27, 28, 29, 30, 31, 32, 33, 34, 5] (by kernel_rfl) (fun K hK => ?_)
      simp only [Act.put, List.setIfInBounds_toArray] at hK ⊢
      clear hj hf
      rw [e1] at hK ⊢
      clear e1
      go_simp
      exact hK _ _ (fun k v _ _ h => h) (fun t ht => rfl) ⟨hcm.1.trans ((Below.refl _ _).mono hcm.1.size), fun u => absurd (up_self (by rw [hlsz]; decide)) u⟩
  · intro listed a w10 hr hj
    have hu : ∀ k, k < 18 → up listed k := fun k hk => all_up (by kernel_rfl) hj.lsize hr k hk
    obtain ⟨f, hae, hcm, hf⟩ := hj.opened [18, 19, 20, 21, 22, 23, 24, 25, 26, 27, 28, 29, 30, 31, 32, 33, 34, 5] (by kernel_rfl)
    simp only [List.foldl_cons, List.foldl_nil, List.setIfInBounds_toArray, List.set_cons_zero, List.set_cons_succ] at hae
    subst hae
    replace hcm : Below wr.heap.size wr w10 ∧ (¬ up listed 17 → f 5 = .int .i64 n) := hcm
    have hlsz : listed.size = 18 := hj.lsize
    have E17 : f 5 = .int .i64 (IntKind.i64.wrap (IntKind.i64.wrap (IntKind.i64.wrap (n + 1) + (nl : Int)) + z)) := hf 17 _ _ rfl rfl (hu 17 (by omega))
    have hbl := hcm.1
    clear hcm hf hj hr hu
    rw [E17]
    clear E17
    exact hQ.out _ (f 18) (f 19) (f 20) (f 21) (f 22) (f 23) (f 24) (f 25) (f 26) (f 27) (f 28) (f 29) (f 30) (f 31) (f 32) (f 33) (f 34) hbl
set_option maxRecDepth 100000 in
set_option maxHeartbeats 8000000 in
theorem weight_n (D : Nat → Prop) (lim : Int) : ∀ (k : Nat) (l : List Cl), SizeOf.sizeOf l < k → ∀ (w : World) (v : Value), SlC D w v l → Calls Tryz.prog 25 #[v, .int .i64 lim] w fun e w' => e = .returned (.int .i64 (wgo lim l 0)) ∧ Below w.heap.size w w'
  | 0, _, h => absurd h (Nat.not_lt_zero _)
  | k + 1, l, hk => by
    intro w v h
    have HS : Hid (∀ i, i < l.length → ∀ (W : World) (v : Value), SlC D W v (l.getD i cl0).items → Calls Tryz.prog 25 #[v, .int .i64 lim] W fun e w' => e = .returned (.int .i64 (wgo lim (l.getD i cl0).items 0)) ∧ Below W.heap.size W w') := fun i hi W v => weight_n D lim k _ (by have := items_at_lt hi; omega) W v
    have H := Lib.hid h
    obtain ⟨p, ca, rfl, h1, h2, _⟩ := h.shape
    clear h hk
    obtain ⟨R, hR⟩ : ∃ R, wgo lim l 0 = R := ⟨_, rfl⟩
    rw [hR]
    have HR : Hid (wgo lim (l.drop 0) 0 = R) := hR
    clear hR
    go_enter Tryz.func25, Tryz.ntmps25
    go_wp2_with fail
    go_loopg [5, 6] l.length (fun gn tn ti wx => ∃ (i : Nat) (n : Int), i ≤ l.length ∧ gn = l.length - i ∧ ti = .int .i64 (i : Int) ∧ tn = .int .i64 n ∧ Hid (wgo lim (l.drop i) n = R) ∧ Hid (Below w.heap.size w wx))
    case atStart => exact ⟨0, 0, Nat.zero_le _, rfl, rfl, rfl, HR.out, Below.refl _ _⟩
    case round =>
      obtain ⟨i, n, hi, rfl, rfl, rfl, hr, hbl⟩ := hrel
      by_cases hlt : i < l.length
      · have il : (i : Int) < (l.length : Int) := by omega
        have il2 : decide ((i : Int) < (l.length : Int)) = true := decide_eq_true il
        by_cases hle : n ≤ lim
        · have q1 : decide (n ≤ lim) = true := decide_eq_true hle
          obtain ⟨ba, oa, ca, ea, _, _, _, la, hca⟩ := (H.out.after hbl.out).at_ (by omega)
          injection ea with ea _ ec
          subst ea ec
          obtain ⟨vn, vi, hc, x0, x1, x2, x3, x4, x5, x6, x7⟩ := hca i hlt
          have HSi := Lib.hid (HS.out i hlt)
          have hnx := hr.out
          rw [wgo_next l hlt hle] at hnx
          have HNX := Lib.hid hnx
          clear hca x0 x2 x3 x4 x5 x7 hnx
          obtain ⟨c, hx⟩ : ∃ x, l.getD i cl0 = x := ⟨_, rfl⟩
          rw [hx] at hc HSi HNX
          obtain ⟨qn, cn, rfl, _, _, _⟩ := (hasC_iff.1 hc).2.1.2.shape
          obtain ⟨qi, ci, rfl, _, _, _⟩ := (hasC_iff.1 hc).2.2.shape
          have HIC := Lib.hid (hasC_iff.1 hc).2.2
          clear hc hx
          go_wp2_with fail
          refine weight_r5 _ (by kernel_rfl) hlt x1 x6 (fun W hW => HSi.out W _ (HIC.out.after hW)) ?_
          intro W y18 y19 y20 y21 y22 y23 y24 y25 y26 y27 y28 y29 y30 y31 y32 y33 y34 hb
          have HB2 := Lib.hid (hbl.out.trans (hb.mono hbl.out.size))
          clear hb x1 x6
          obtain ⟨n2, hn2⟩ : ∃ n2, IntKind.i64.wrap (IntKind.i64.wrap (IntKind.i64.wrap (n + 1) + (c.names.length : Int)) + wgo lim c.items 0) = n2 := ⟨_, rfl⟩
          rw [hn2] at HNX ⊢
          clear hn2 hle q1
          go_wp2_with fail
          go_roundg (l.length - (i + 1))
          case measure => omega
          case rel => exact ⟨i + 1, n2, by omega, rfl, by go_num, rfl, HNX.out, HB2.out⟩
        · have q1 : decide (n ≤ lim) = false := decide_eq_false hle
          have HE : Hid (n = R) := by show _ = _; rw [← hr.out, wgo_stop hle]
          clear hle
          go_wp2_with fail
          go_ret
          exact ⟨ret_int HE.out, hbl.out⟩
      · obtain rfl : i = l.length := by omega
        have il2 : decide ((l.length : Int) < (l.length : Int)) = false := decide_eq_false (by omega)
        have HE : Hid (n = R) := by show _ = _; rw [← hr.out, List.drop_length, wgo]
        go_wp2_with fail
        go_ret
        exact ⟨ret_int HE.out, hbl.out⟩
theorem Weight_c (D : Nat → Prop) (lim : Int) (w : World) (v : Value) (l : List Cl) (h : SlC D w v l) : Calls Tryz.prog 25 #[v, .int .i64 lim] w fun e w' => e = .returned (.int .i64 (wgo lim l 0)) ∧ Below w.heap.size w w' := weight_n D lim _ l (Nat.lt_succ_self _) w v h
/-- Whether a tree is small enough to be looked at. -/
def smallB (l : List Cl) : Bool := decide (wgo 2000 l 0 ≤ 2000)
set_option maxRecDepth 100000 in
set_option maxHeartbeats 4000000 in
theorem small_c (D : Nat → Prop) (w : World) (v : Value) (l : List Cl) (h : SlC D w v l) : Calls Tryz.prog 14 #[v] w (RetB w (smallB l)) := by
  have H := Lib.hid (Weight_c D 2000 w v l h)
  obtain ⟨p, ca, rfl, h1, h2, _⟩ := h.shape
  obtain ⟨z, hz⟩ : ∃ z, wgo 2000 l 0 = z := ⟨_, rfl⟩
  rw [hz] at H
  have HB : Hid (decide (z ≤ 2000) = smallB l) := by show _ = _; unfold smallB; rw [hz]
  clear h hz
  go_enter Tryz.func14, Tryz.ntmps14
  go_wp2_with fail
  refine H.out.mono ?_
  rintro e w1 ⟨rfl, hb⟩
  have HBB := Lib.hid hb
  clear hb
  go_wp2_with fail
  go_ret
  exact ⟨ret_bool HB.out, HBB.out⟩
end Go.Proofs.YtganlldidjbpiaaGreatDoor
