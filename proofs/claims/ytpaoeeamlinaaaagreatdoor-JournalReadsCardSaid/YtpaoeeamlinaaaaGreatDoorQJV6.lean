/- Journal, walks of the reference: numbers. -/
import Derived.Test.YtpaoeeamlinaaaaGreatDoorQJV2
import Derived.Test.YtpaoeeamlinaaaaGreatDoorQJV3
set_option linter.unusedVariables false
namespace Go.Proofs.YtpaoeeamlinaaaaGreatDoor
open Go.RowKit

section
variable {ops : Array Oper} {S : Array Bool → Nat → Value → World → Prop} {C : Array Bool → (Nat → Value) → World → Prop} {a0 a : Act} {listed : Array Bool} {w w' : World}
/-- A guarded operation that is wanted. -/
theorem GJ.yes {P : Program} {Q : Exit → Act → World → Prop} {i j tj : Nat} {b c : Bool} {o oj : Oper} (h : GJ ops S C a0 listed a w) (hd : dstOnce ops = true) (hr : i ∈ Region.ready .any ops listed) (ho : ops[i]? = some o) (D : List Nat) (hD : dstIn ops D a0.tmps.size = true)
    (hg : o.guard = some (j, b)) (hj : ops[j]? = some oj) (htj : oj.dst = some tj) (hv : a.tmps.getD tj undef = .bool c) (hcb : (c == b) = true)
    (hrun : ∀ K : Act → World → Prop, (∀ v w', (∀ k v, k ≠ i → up listed k → S listed k v w → S (listed.setIfInBounds i true) k v w') → (∀ t, o.dst = some t → S (listed.setIfInBounds i true) i v w') →
      C (listed.setIfInBounds i true) (fun t => (a.put o.dst v).tmps.getD t undef) w' → K (a.put o.dst v) w') → o.wp P a w K Q) :
    OpOut P ops Q i (GJ ops S C a0 (listed.setIfInBounds i true)) a w := by
  have hk := hrun (GJ ops S C a0 (listed.setIfInBounds i true)) (fun v w' h1 h2 h3 => h.step hd hr ho (fun _ ht => (dstIn_spec hD ho ht).2) h1 h2 h3)
  refine ⟨?_⟩
  unfold wpOp
  simp only [ho]
  rw [if_pos (by rw [wanted_of hg hj htj hv]; exact hcb)]
  exact .inl hk
/-- A guarded operation that is not wanted. -/
theorem GJ.no {P : Program} {Q : Exit → Act → World → Prop} {i j tj : Nat} {b c : Bool} {o oj : Oper} (h : GJ ops S C a0 listed a w) (hd : dstOnce ops = true) (hr : i ∈ Region.ready .any ops listed) (ho : ops[i]? = some o) (D : List Nat) (hD : dstIn ops D a0.tmps.size = true)
    (hg : o.guard = some (j, b)) (hj : ops[j]? = some oj) (htj : oj.dst = some tj) (hv : a.tmps.getD tj undef = .bool c) (hcb : (c == b) = false)
    (hS : ∀ k v, k ≠ i → up listed k → S listed k v w → S (listed.setIfInBounds i true) k v w) (hv' : ∀ t, o.dst = some t → S (listed.setIfInBounds i true) i undef w)
    (hC : C (listed.setIfInBounds i true) (fun t => (a.put o.dst undef).tmps.getD t undef) w) :
    OpOut P ops Q i (GJ ops S C a0 (listed.setIfInBounds i true)) a w := by
  have hk := h.step (v := undef) (w' := w) hd hr ho (fun _ ht => (dstIn_spec hD ho ht).2) hS hv' hC
  refine ⟨?_⟩
  unfold wpOp
  simp only [ho]
  rw [if_neg (by rw [wanted_of hg hj htj hv, hcb]; simp)]
  exact hk
end
theorem bare_1 {r : Rec} (h : r.kind = 1) : Bare r ↔ (r.place = 0 ∧ r.id = 0 ∧ r.lease = 0 ∧ r.ans = 0) ∧ r.steps.length ≤ 12 ∧ r.after.length = r.steps.length ∧ ∀ a ∈ r.after, a.length ≤ 12 := by simp only [Bare, h]
theorem bare_2 {r : Rec} (h : r.kind = 2) : Bare r ↔ r.steps = [] ∧ r.after = [] ∧ r.ans = 0 := by simp only [Bare, h]
theorem bare_3 {r : Rec} (h : r.kind = 3) : Bare r ↔ r.steps = [] ∧ r.after = [] ∧ r.place = 0 ∧ r.lease = 0 := by simp only [Bare, h]
theorem bare_x {r : Rec} (h1 : r.kind ≠ 1) (h2 : r.kind ≠ 2) (h3 : r.kind ≠ 3) : Bare r ↔ (r.kind = 4 ∨ r.kind = 5) ∧ r.steps = [] ∧ r.after = [] ∧ r.place = 0 ∧ r.id = 0 ∧ r.lease = 0 ∧ r.ans = 0 := by
  obtain ⟨k, p, i, l, a, ss, ls⟩ := r
  simp only at h1 h2 h3 ⊢
  unfold Bare
  match k with
  | 0 => simp
  | 1 => exact absurd rfl h1
  | 2 => exact absurd rfl h2
  | 3 => exact absurd rfl h3
  | 4 => simp
  | 5 => simp
  | k + 6 => simp
theorem nums_1 {r : Rec} (h : r.kind = 1) : numsOf r = planned r.steps r.after := by simp only [numsOf, h]
theorem nums_2 {r : Rec} (h : r.kind = 2) : numsOf r = [r.place, r.id, r.lease] := by simp only [numsOf, h]
theorem nums_3 {r : Rec} (h : r.kind = 3) : numsOf r = [r.id, (r.ans : Int)] := by simp only [numsOf, h]
theorem nums_x {r : Rec} (h1 : r.kind ≠ 1) (h2 : r.kind ≠ 2) (h3 : r.kind ≠ 3) : numsOf r = [] := by
  obtain ⟨k, p, i, l, a, ss, ls⟩ := r
  simp only at h1 h2 h3
  unfold numsOf
  match k with
  | 0 => rfl
  | 1 => exact absurd rfl h1
  | 2 => exact absurd rfl h2
  | 3 => exact absurd rfl h3
  | k + 4 => rfl
/-- What the reference's numbers returns. -/
def RetN (w : World) (r : Rec) (e : Ending) (w' : World) : Prop := ∃ v p, e = .returned (.tuple #[v, .bool p]) ∧ ((1 ≤ r.kind ∧ r.kind ≤ 5) → p = decide (Bare r)) ∧ (Bare r → SlI w' v (numsOf r)) ∧ Below w.heap.size w w'
set_option maxRecDepth 100000 in
set_option maxHeartbeats 2000000 in
theorem rNumbers_2 (w : World) (v : Value) (r : Rec) (h : IsR w v r) (hk : r.kind = 2) : Calls Tryz.prog 30 #[v] w (RetN w r) := by
  obtain ⟨hok, vs, va, rfl, h1, h2⟩ := h
  obtain ⟨pS, cS, rfl, _, _, _⟩ := h1.2.shape
  obtain ⟨pL, cL, rfl⟩ : ∃ pL cL, va = .slice pL r.after.length cL := by
    obtain ⟨_, k2, _⟩ := h2
    obtain ⟨a, b, e', _⟩ := k2.shape
    exact ⟨a, b, e'⟩
  obtain ⟨W0, hW⟩ : ∃ W0, W0 = w.alloc (.cells #[.int .u8 (r.kind : Int), .int .i64 r.place, .int .i64 r.id, .int .i64 r.lease, .int .u8 (r.ans : Int), .slice pS r.steps.length cS, .slice pL r.after.length cL] 29) := ⟨_, rfl⟩
  have hb0 : Below w.heap.size w W0 := by rw [hW]; exact held_alloc (Below.refl _ _)
  have hbx : Box W0 w.heap.size #[.int .u8 (r.kind : Int), .int .i64 r.place, .int .i64 r.id, .int .i64 r.lease, .int .u8 (r.ans : Int), .slice pS r.steps.length cS, .slice pL r.after.length cL] 29 := by rw [hW]; exact Box.new _ _ _
  have HOK := Lib.hid hok
  have H1 := Lib.hid (h1.after hb0)
  have H2 := Lib.hid (h2.after hb0)
  have HB := Lib.hid hb0
  have BX := Lib.hid hbx
  have x0 : W0.cell? ⟨w.heap.size, 0, none⟩ = some (.int .u8 (r.kind : Int)) := hbx.cell 0
  have x1 : W0.cell? ⟨w.heap.size, 1, none⟩ = some (.int .i64 r.place) := hbx.cell 1
  have x2 : W0.cell? ⟨w.heap.size, 2, none⟩ = some (.int .i64 r.id) := hbx.cell 2
  have x3 : W0.cell? ⟨w.heap.size, 3, none⟩ = some (.int .i64 r.lease) := hbx.cell 3
  have x4 : W0.cell? ⟨w.heap.size, 4, none⟩ = some (.int .u8 (r.ans : Int)) := hbx.cell 4
  have x5 : W0.cell? ⟨w.heap.size, 5, none⟩ = some (.slice pS r.steps.length cS) := hbx.cell 5
  have x6 : W0.cell? ⟨w.heap.size, 6, none⟩ = some (.slice pL r.after.length cL) := hbx.cell 6
  have lx := hbx.lt
  clear hok h1 h2 hb0 hbx
  show Calls _ _ #[.agg #[.int .u8 (r.kind : Int), .int .i64 r.place, .int .i64 r.id, .int .i64 r.lease, .int .u8 (r.ans : Int), .slice pS r.steps.length cS, .slice pL r.after.length cL]] w _
  have k1 : ((r.kind : Int) == 1) = false := by rw [beq_eq_false_iff_ne]; omega
  have k2 : ((r.kind : Int) == 2) = true := by rw [beq_iff_eq]; omega
  by_cases hs : r.steps = []
  rotate_left
  · have hs0 : 0 < r.steps.length := List.length_pos_iff.2 hs
    have b1 : ((r.steps.length : Int) == 0) = false := by rw [beq_eq_false_iff_ne]; omega
    have HN := Lib.hid (nums_2 hk)
    have HP : Hid ((1 ≤ r.kind ∧ r.kind ≤ 5) → false = decide (Bare r)) := fun _ => (decide_eq_false (fun e => by rw [bare_2 hk] at e; exact hs e.1)).symm
    clear hs hs0 hk
    go_enter Tryz.func30, Tryz.ntmps30
    go_upto_region 1 with fail
    rw [← hW]
    clear hW
    go_upto_region 13 with fail
    refine wp_region_gj (J := GJ _ (fun _ => SJ 0 (fun κ => match κ with | 0 => (.eq (.pointer (some ⟨w.heap.size, 1, none⟩))) | 1 => (.eq (.int .i64 r.place)) | 2 => (.eq (.pointer (some ⟨w.heap.size, 2, none⟩))) | 3 => (.eq (.int .i64 r.id)) | 4 => (.eq (.pointer (some ⟨w.heap.size, 3, none⟩))) | 5 => (.eq (.int .i64 r.lease)) | 6 => (.own [r.place, r.id, r.lease]) | 7 => (.eq (.bool false)) | 8 => (.eq (.bool false)) | 12 => (.eq (.bool false)) | 13 => (.own [r.place, r.id, r.lease]) | 14 => (.eq (.bool false)) | _ => .any)) (fun _ _ w => Below W0.heap.size W0 w) _) (by kernel_rfl) ?_ ?_ (GJ.start (below_dr (Below.refl _ _)))
    · intro listed a_ w9 i_ hr hj
      obtain ⟨hi12, hun, _, _, _⟩ := ready_mem hr
      have h12 : i_ ∈ List.range 15 := List.mem_range.2 hi12
      simp only [List.range, List.range.loop, List.mem_cons, List.not_mem_nil, or_false] at h12
      obtain ⟨f, rfl, hcm, hf⟩ := hj.opened [85, 86, 87, 88, 89, 90, 91, 92, 93, 94, 95, 96, 97, 2, 3] (by kernel_rfl)
      replace hcm : Below W0.heap.size W0 w9 := hcm
      rcases h12 with rfl | rfl | rfl | rfl | rfl | rfl | rfl | rfl | rfl | rfl | rfl | rfl | rfl | rfl | rfl
      · have klt := Nat.lt_of_lt_of_le lx hcm.size
        refine GJ.op hj (by kernel_rfl) hr rfl [85, 86, 87, 88, 89, 90, 91, 92, 93, 94, 95, 96, 97, 2, 3] (by kernel_rfl) (fun K hK => ?_)
        simp only [Act.put, List.foldl_cons, List.foldl_nil, List.setIfInBounds_toArray, List.set_cons_zero, List.set_cons_succ] at hK ⊢
        clear hj hf
        go_simp
        exact hK _ _ (fun k v _ _ h => h.keep (Below.refl _ _)) (fun t ht => SJ.of (.eq (.pointer (some ⟨w.heap.size, 1, none⟩))) rfl rfl) (hcm.trans ((Below.refl _ _).mono hcm.size))
      · have e1 : f 85 = .pointer (some ⟨w.heap.size, 1, none⟩) := hf 0 _ _ rfl rfl (up_dep hr (by kernel_rfl))
        have kx := keep_cell hcm x1
        have klt := Nat.lt_of_lt_of_le lx hcm.size
        refine GJ.op hj (by kernel_rfl) hr rfl [85, 86, 87, 88, 89, 90, 91, 92, 93, 94, 95, 96, 97, 2, 3] (by kernel_rfl) (fun K hK => ?_)
        simp only [Act.put, List.foldl_cons, List.foldl_nil, List.setIfInBounds_toArray, List.set_cons_zero, List.set_cons_succ] at hK ⊢
        clear hj hf
        rw [e1] at hK ⊢
        clear e1
        go_simp
        exact hK _ _ (fun k v _ _ h => h.keep (Below.refl _ _)) (fun t ht => SJ.of (.eq (.int .i64 r.place)) rfl rfl) (hcm.trans ((Below.refl _ _).mono hcm.size))
      · have klt := Nat.lt_of_lt_of_le lx hcm.size
        refine GJ.op hj (by kernel_rfl) hr rfl [85, 86, 87, 88, 89, 90, 91, 92, 93, 94, 95, 96, 97, 2, 3] (by kernel_rfl) (fun K hK => ?_)
        simp only [Act.put, List.foldl_cons, List.foldl_nil, List.setIfInBounds_toArray, List.set_cons_zero, List.set_cons_succ] at hK ⊢
        clear hj hf
        go_simp
        exact hK _ _ (fun k v _ _ h => h.keep (Below.refl _ _)) (fun t ht => SJ.of (.eq (.pointer (some ⟨w.heap.size, 2, none⟩))) rfl rfl) (hcm.trans ((Below.refl _ _).mono hcm.size))
      · have e1 : f 87 = .pointer (some ⟨w.heap.size, 2, none⟩) := hf 2 _ _ rfl rfl (up_dep hr (by kernel_rfl))
        have kx := keep_cell hcm x2
        have klt := Nat.lt_of_lt_of_le lx hcm.size
        refine GJ.op hj (by kernel_rfl) hr rfl [85, 86, 87, 88, 89, 90, 91, 92, 93, 94, 95, 96, 97, 2, 3] (by kernel_rfl) (fun K hK => ?_)
        simp only [Act.put, List.foldl_cons, List.foldl_nil, List.setIfInBounds_toArray, List.set_cons_zero, List.set_cons_succ] at hK ⊢
        clear hj hf
        rw [e1] at hK ⊢
        clear e1
        go_simp
        exact hK _ _ (fun k v _ _ h => h.keep (Below.refl _ _)) (fun t ht => SJ.of (.eq (.int .i64 r.id)) rfl rfl) (hcm.trans ((Below.refl _ _).mono hcm.size))
      · have klt := Nat.lt_of_lt_of_le lx hcm.size
        refine GJ.op hj (by kernel_rfl) hr rfl [85, 86, 87, 88, 89, 90, 91, 92, 93, 94, 95, 96, 97, 2, 3] (by kernel_rfl) (fun K hK => ?_)
        simp only [Act.put, List.foldl_cons, List.foldl_nil, List.setIfInBounds_toArray, List.set_cons_zero, List.set_cons_succ] at hK ⊢
        clear hj hf
        go_simp
        exact hK _ _ (fun k v _ _ h => h.keep (Below.refl _ _)) (fun t ht => SJ.of (.eq (.pointer (some ⟨w.heap.size, 3, none⟩))) rfl rfl) (hcm.trans ((Below.refl _ _).mono hcm.size))
      · have e1 : f 89 = .pointer (some ⟨w.heap.size, 3, none⟩) := hf 4 _ _ rfl rfl (up_dep hr (by kernel_rfl))
        have kx := keep_cell hcm x3
        have klt := Nat.lt_of_lt_of_le lx hcm.size
        refine GJ.op hj (by kernel_rfl) hr rfl [85, 86, 87, 88, 89, 90, 91, 92, 93, 94, 95, 96, 97, 2, 3] (by kernel_rfl) (fun K hK => ?_)
        simp only [Act.put, List.foldl_cons, List.foldl_nil, List.setIfInBounds_toArray, List.set_cons_zero, List.set_cons_succ] at hK ⊢
        clear hj hf
        rw [e1] at hK ⊢
        clear e1
        go_simp
        exact hK _ _ (fun k v _ _ h => h.keep (Below.refl _ _)) (fun t ht => SJ.of (.eq (.int .i64 r.lease)) rfl rfl) (hcm.trans ((Below.refl _ _).mono hcm.size))
      · have e1 : f 86 = .int .i64 r.place := hf 1 _ _ rfl rfl (up_dep hr (by kernel_rfl))
        have e2 : f 88 = .int .i64 r.id := hf 3 _ _ rfl rfl (up_dep hr (by kernel_rfl))
        have e3 : f 90 = .int .i64 r.lease := hf 5 _ _ rfl rfl (up_dep hr (by kernel_rfl))
        obtain ⟨_, hp64, hid64, hl64, _⟩ := HOK.out
        have HOW := Lib.hid (OwnI.three w9 (Nat.zero_le _) hp64 hid64 hl64)
        clear hp64 hid64 hl64
        refine GJ.op hj (by kernel_rfl) hr rfl [85, 86, 87, 88, 89, 90, 91, 92, 93, 94, 95, 96, 97, 2, 3] (by kernel_rfl) (fun K hK => ?_)
        simp only [Act.put, List.foldl_cons, List.foldl_nil, List.setIfInBounds_toArray, List.set_cons_zero, List.set_cons_succ] at hK ⊢
        clear hj hf
        rw [e1, e2, e3] at hK ⊢
        clear e1 e2 e3
        go_simp
        exact hK _ _ (fun k v _ _ h => h.keep (held_alloc (Below.refl _ _))) (fun t ht => SJ.of (.own [r.place, r.id, r.lease]) rfl HOW.out) (hcm.trans ((held_alloc (Below.refl _ _)).mono hcm.size))
      · refine GJ.op hj (by kernel_rfl) hr rfl [85, 86, 87, 88, 89, 90, 91, 92, 93, 94, 95, 96, 97, 2, 3] (by kernel_rfl) (fun K hK => ?_)
        simp only [Act.put, List.foldl_cons, List.foldl_nil, List.setIfInBounds_toArray, List.set_cons_zero, List.set_cons_succ] at hK ⊢
        clear hj hf
        go_simp
        exact hK _ _ (fun k v _ _ h => h.keep (Below.refl _ _)) (fun t ht => SJ.of (.eq (.bool false)) rfl rfl) (hcm.trans ((Below.refl _ _).mono hcm.size))
      · have e1 : f 92 = .bool false := hf 7 _ _ rfl rfl (up_dep hr (by kernel_rfl))
        refine GJ.op hj (by kernel_rfl) hr rfl [85, 86, 87, 88, 89, 90, 91, 92, 93, 94, 95, 96, 97, 2, 3] (by kernel_rfl) (fun K hK => ?_)
        simp only [Act.put, List.foldl_cons, List.foldl_nil, List.setIfInBounds_toArray, List.set_cons_zero, List.set_cons_succ] at hK ⊢
        clear hj hf
        rw [e1] at hK ⊢
        clear e1
        go_simp
        exact hK _ _ (fun k v _ _ h => h.keep (Below.refl _ _)) (fun t ht => SJ.of (.eq (.bool false)) rfl rfl) (hcm.trans ((Below.refl _ _).mono hcm.size))
      · have gg := hj.got 8 _ _ rfl rfl (up_dep hr (by kernel_rfl))
        exact GJ.no hj (by kernel_rfl) hr rfl [85, 86, 87, 88, 89, 90, 91, 92, 93, 94, 95, 96, 97, 2, 3] (by kernel_rfl) rfl (j := 8) rfl rfl (c := false) gg rfl (fun k v _ _ h => h) (fun t ht => SJ.of .any rfl trivial) hcm
      · have gg := hj.got 8 _ _ rfl rfl (up_dep hr (by kernel_rfl))
        exact GJ.no hj (by kernel_rfl) hr rfl [85, 86, 87, 88, 89, 90, 91, 92, 93, 94, 95, 96, 97, 2, 3] (by kernel_rfl) rfl (j := 8) rfl rfl (c := false) gg rfl (fun k v _ _ h => h) (fun t ht => SJ.of .any rfl trivial) hcm
      · have gg := hj.got 8 _ _ rfl rfl (up_dep hr (by kernel_rfl))
        exact GJ.no hj (by kernel_rfl) hr rfl [85, 86, 87, 88, 89, 90, 91, 92, 93, 94, 95, 96, 97, 2, 3] (by kernel_rfl) rfl (j := 8) rfl rfl (c := false) gg rfl (fun k v _ _ h => h) (fun t ht => SJ.of .any rfl trivial) hcm
      · have e1 : f 93 = .bool false := hf 8 _ _ rfl rfl (up_dep hr (by kernel_rfl))
        refine GJ.op hj (by kernel_rfl) hr rfl [85, 86, 87, 88, 89, 90, 91, 92, 93, 94, 95, 96, 97, 2, 3] (by kernel_rfl) (fun K hK => ?_)
        simp only [Act.put, List.foldl_cons, List.foldl_nil, List.setIfInBounds_toArray, List.set_cons_zero, List.set_cons_succ] at hK ⊢
        clear hj hf
        rw [e1] at hK ⊢
        clear e1
        go_simp
        exact hK _ _ (fun k v _ _ h => h.keep (Below.refl _ _)) (fun t ht => SJ.of (.eq (.bool false)) rfl rfl) (hcm.trans ((Below.refl _ _).mono hcm.size))
      · have HOW : OwnI w9 0 (f 91) [r.place, r.id, r.lease] := hf 6 _ _ rfl rfl (up_dep hr (by kernel_rfl))
        refine GJ.op hj (by kernel_rfl) hr rfl [85, 86, 87, 88, 89, 90, 91, 92, 93, 94, 95, 96, 97, 2, 3] (by kernel_rfl) (fun K hK => ?_)
        simp only [Act.put, List.foldl_cons, List.foldl_nil, List.setIfInBounds_toArray, List.set_cons_zero, List.set_cons_succ] at hK ⊢
        clear hj hf
        generalize f 91 = u9 at HOW hK ⊢
        have HOW := Lib.hid HOW
        go_simp
        exact hK _ _ (fun k v _ _ h => h.keep (Below.refl _ _)) (fun t ht => SJ.of (.own [r.place, r.id, r.lease]) rfl HOW.out) hcm
      · have e1 : f 97 = .bool false := hf 12 _ _ rfl rfl (up_dep hr (by kernel_rfl))
        refine GJ.op hj (by kernel_rfl) hr rfl [85, 86, 87, 88, 89, 90, 91, 92, 93, 94, 95, 96, 97, 2, 3] (by kernel_rfl) (fun K hK => ?_)
        simp only [Act.put, List.foldl_cons, List.foldl_nil, List.setIfInBounds_toArray, List.set_cons_zero, List.set_cons_succ] at hK ⊢
        clear hj hf
        rw [e1] at hK ⊢
        clear e1
        go_simp
        exact hK _ _ (fun k v _ _ h => h.keep (Below.refl _ _)) (fun t ht => SJ.of (.eq (.bool false)) rfl rfl) (hcm.trans ((Below.refl _ _).mono hcm.size))
    · intro listed a_ w10 hr hj
      have hu : ∀ k, k < 15 → up listed k := fun k hk => all_up (by kernel_rfl) hj.lsize hr k hk
      obtain ⟨f, rfl, hcm, hf⟩ := hj.opened [85, 86, 87, 88, 89, 90, 91, 92, 93, 94, 95, 96, 97, 2, 3] (by kernel_rfl)
      replace hcm : Below W0.heap.size W0 w10 := hcm
      have HLast : f 3 = .bool false := hf 14 _ _ rfl rfl (hu 14 (by omega))
      have HOW : OwnI w10 0 (f 2) [r.place, r.id, r.lease] := hf 13 _ _ rfl rfl (hu 13 (by omega))
      have HBR := Lib.hid hcm
      clear hf hj hr hu hcm
      simp only [List.foldl_cons, List.foldl_nil, List.setIfInBounds_toArray, List.set_cons_zero, List.set_cons_succ]
      rw [HLast]
      clear HLast
      generalize f 85 = g85
      generalize f 86 = g86
      generalize f 87 = g87
      generalize f 88 = g88
      generalize f 89 = g89
      generalize f 90 = g90
      generalize f 91 = g91
      generalize f 92 = g92
      generalize f 93 = g93
      generalize f 94 = g94
      generalize f 95 = g95
      generalize f 96 = g96
      generalize f 97 = g97
      generalize f 2 = g2 at HOW ⊢
      clear f
      go_wp2_with fail
      go_ret2
      exact ⟨_, _, rfl, HP.out, fun hb => by rw [HN.out]; exact HOW.sl, HB.out.trans (HBR.out.mono HB.out.size)⟩
  have b1 : ((r.steps.length : Int) == 0) = true := by rw [hs]; rfl
  by_cases ha : r.after = []
  rotate_left
  · have ha0 : 0 < r.after.length := List.length_pos_iff.2 ha
    have b2 : ((r.after.length : Int) == 0) = false := by rw [beq_eq_false_iff_ne]; omega
    have HN := Lib.hid (nums_2 hk)
    have HP : Hid ((1 ≤ r.kind ∧ r.kind ≤ 5) → false = decide (Bare r)) := fun _ => (decide_eq_false (fun e => by rw [bare_2 hk] at e; exact ha e.2.1)).symm
    clear hs ha ha0 hk
    go_enter Tryz.func30, Tryz.ntmps30
    go_upto_region 1 with fail
    rw [← hW]
    clear hW
    go_upto_region 13 with fail
    refine wp_region_gj (J := GJ _ (fun _ => SJ 0 (fun κ => match κ with | 0 => (.eq (.pointer (some ⟨w.heap.size, 1, none⟩))) | 1 => (.eq (.int .i64 r.place)) | 2 => (.eq (.pointer (some ⟨w.heap.size, 2, none⟩))) | 3 => (.eq (.int .i64 r.id)) | 4 => (.eq (.pointer (some ⟨w.heap.size, 3, none⟩))) | 5 => (.eq (.int .i64 r.lease)) | 6 => (.own [r.place, r.id, r.lease]) | 7 => (.eq (.bool false)) | 8 => (.eq (.bool false)) | 12 => (.eq (.bool false)) | 13 => (.own [r.place, r.id, r.lease]) | 14 => (.eq (.bool false)) | _ => .any)) (fun _ _ w => Below W0.heap.size W0 w) _) (by kernel_rfl) ?_ ?_ (GJ.start (below_dr (Below.refl _ _)))
    · intro listed a_ w9 i_ hr hj
      obtain ⟨hi12, hun, _, _, _⟩ := ready_mem hr
      have h12 : i_ ∈ List.range 15 := List.mem_range.2 hi12
      simp only [List.range, List.range.loop, List.mem_cons, List.not_mem_nil, or_false] at h12
      obtain ⟨f, rfl, hcm, hf⟩ := hj.opened [85, 86, 87, 88, 89, 90, 91, 92, 93, 94, 95, 96, 97, 2, 3] (by kernel_rfl)
      replace hcm : Below W0.heap.size W0 w9 := hcm
      rcases h12 with rfl | rfl | rfl | rfl | rfl | rfl | rfl | rfl | rfl | rfl | rfl | rfl | rfl | rfl | rfl
      · have klt := Nat.lt_of_lt_of_le lx hcm.size
        refine GJ.op hj (by kernel_rfl) hr rfl [85, 86, 87, 88, 89, 90, 91, 92, 93, 94, 95, 96, 97, 2, 3] (by kernel_rfl) (fun K hK => ?_)
        simp only [Act.put, List.foldl_cons, List.foldl_nil, List.setIfInBounds_toArray, List.set_cons_zero, List.set_cons_succ] at hK ⊢
        clear hj hf
        go_simp
        exact hK _ _ (fun k v _ _ h => h.keep (Below.refl _ _)) (fun t ht => SJ.of (.eq (.pointer (some ⟨w.heap.size, 1, none⟩))) rfl rfl) (hcm.trans ((Below.refl _ _).mono hcm.size))
      · have e1 : f 85 = .pointer (some ⟨w.heap.size, 1, none⟩) := hf 0 _ _ rfl rfl (up_dep hr (by kernel_rfl))
        have kx := keep_cell hcm x1
        have klt := Nat.lt_of_lt_of_le lx hcm.size
        refine GJ.op hj (by kernel_rfl) hr rfl [85, 86, 87, 88, 89, 90, 91, 92, 93, 94, 95, 96, 97, 2, 3] (by kernel_rfl) (fun K hK => ?_)
        simp only [Act.put, List.foldl_cons, List.foldl_nil, List.setIfInBounds_toArray, List.set_cons_zero, List.set_cons_succ] at hK ⊢
        clear hj hf
        rw [e1] at hK ⊢
        clear e1
        go_simp
        exact hK _ _ (fun k v _ _ h => h.keep (Below.refl _ _)) (fun t ht => SJ.of (.eq (.int .i64 r.place)) rfl rfl) (hcm.trans ((Below.refl _ _).mono hcm.size))
      · have klt := Nat.lt_of_lt_of_le lx hcm.size
        refine GJ.op hj (by kernel_rfl) hr rfl [85, 86, 87, 88, 89, 90, 91, 92, 93, 94, 95, 96, 97, 2, 3] (by kernel_rfl) (fun K hK => ?_)
        simp only [Act.put, List.foldl_cons, List.foldl_nil, List.setIfInBounds_toArray, List.set_cons_zero, List.set_cons_succ] at hK ⊢
        clear hj hf
        go_simp
        exact hK _ _ (fun k v _ _ h => h.keep (Below.refl _ _)) (fun t ht => SJ.of (.eq (.pointer (some ⟨w.heap.size, 2, none⟩))) rfl rfl) (hcm.trans ((Below.refl _ _).mono hcm.size))
      · have e1 : f 87 = .pointer (some ⟨w.heap.size, 2, none⟩) := hf 2 _ _ rfl rfl (up_dep hr (by kernel_rfl))
        have kx := keep_cell hcm x2
        have klt := Nat.lt_of_lt_of_le lx hcm.size
        refine GJ.op hj (by kernel_rfl) hr rfl [85, 86, 87, 88, 89, 90, 91, 92, 93, 94, 95, 96, 97, 2, 3] (by kernel_rfl) (fun K hK => ?_)
        simp only [Act.put, List.foldl_cons, List.foldl_nil, List.setIfInBounds_toArray, List.set_cons_zero, List.set_cons_succ] at hK ⊢
        clear hj hf
        rw [e1] at hK ⊢
        clear e1
        go_simp
        exact hK _ _ (fun k v _ _ h => h.keep (Below.refl _ _)) (fun t ht => SJ.of (.eq (.int .i64 r.id)) rfl rfl) (hcm.trans ((Below.refl _ _).mono hcm.size))
      · have klt := Nat.lt_of_lt_of_le lx hcm.size
        refine GJ.op hj (by kernel_rfl) hr rfl [85, 86, 87, 88, 89, 90, 91, 92, 93, 94, 95, 96, 97, 2, 3] (by kernel_rfl) (fun K hK => ?_)
        simp only [Act.put, List.foldl_cons, List.foldl_nil, List.setIfInBounds_toArray, List.set_cons_zero, List.set_cons_succ] at hK ⊢
        clear hj hf
        go_simp
        exact hK _ _ (fun k v _ _ h => h.keep (Below.refl _ _)) (fun t ht => SJ.of (.eq (.pointer (some ⟨w.heap.size, 3, none⟩))) rfl rfl) (hcm.trans ((Below.refl _ _).mono hcm.size))
      · have e1 : f 89 = .pointer (some ⟨w.heap.size, 3, none⟩) := hf 4 _ _ rfl rfl (up_dep hr (by kernel_rfl))
        have kx := keep_cell hcm x3
        have klt := Nat.lt_of_lt_of_le lx hcm.size
        refine GJ.op hj (by kernel_rfl) hr rfl [85, 86, 87, 88, 89, 90, 91, 92, 93, 94, 95, 96, 97, 2, 3] (by kernel_rfl) (fun K hK => ?_)
        simp only [Act.put, List.foldl_cons, List.foldl_nil, List.setIfInBounds_toArray, List.set_cons_zero, List.set_cons_succ] at hK ⊢
        clear hj hf
        rw [e1] at hK ⊢
        clear e1
        go_simp
        exact hK _ _ (fun k v _ _ h => h.keep (Below.refl _ _)) (fun t ht => SJ.of (.eq (.int .i64 r.lease)) rfl rfl) (hcm.trans ((Below.refl _ _).mono hcm.size))
      · have e1 : f 86 = .int .i64 r.place := hf 1 _ _ rfl rfl (up_dep hr (by kernel_rfl))
        have e2 : f 88 = .int .i64 r.id := hf 3 _ _ rfl rfl (up_dep hr (by kernel_rfl))
        have e3 : f 90 = .int .i64 r.lease := hf 5 _ _ rfl rfl (up_dep hr (by kernel_rfl))
        obtain ⟨_, hp64, hid64, hl64, _⟩ := HOK.out
        have HOW := Lib.hid (OwnI.three w9 (Nat.zero_le _) hp64 hid64 hl64)
        clear hp64 hid64 hl64
        refine GJ.op hj (by kernel_rfl) hr rfl [85, 86, 87, 88, 89, 90, 91, 92, 93, 94, 95, 96, 97, 2, 3] (by kernel_rfl) (fun K hK => ?_)
        simp only [Act.put, List.foldl_cons, List.foldl_nil, List.setIfInBounds_toArray, List.set_cons_zero, List.set_cons_succ] at hK ⊢
        clear hj hf
        rw [e1, e2, e3] at hK ⊢
        clear e1 e2 e3
        go_simp
        exact hK _ _ (fun k v _ _ h => h.keep (held_alloc (Below.refl _ _))) (fun t ht => SJ.of (.own [r.place, r.id, r.lease]) rfl HOW.out) (hcm.trans ((held_alloc (Below.refl _ _)).mono hcm.size))
      · refine GJ.op hj (by kernel_rfl) hr rfl [85, 86, 87, 88, 89, 90, 91, 92, 93, 94, 95, 96, 97, 2, 3] (by kernel_rfl) (fun K hK => ?_)
        simp only [Act.put, List.foldl_cons, List.foldl_nil, List.setIfInBounds_toArray, List.set_cons_zero, List.set_cons_succ] at hK ⊢
        clear hj hf
        go_simp
        exact hK _ _ (fun k v _ _ h => h.keep (Below.refl _ _)) (fun t ht => SJ.of (.eq (.bool false)) rfl rfl) (hcm.trans ((Below.refl _ _).mono hcm.size))
      · have e1 : f 92 = .bool false := hf 7 _ _ rfl rfl (up_dep hr (by kernel_rfl))
        refine GJ.op hj (by kernel_rfl) hr rfl [85, 86, 87, 88, 89, 90, 91, 92, 93, 94, 95, 96, 97, 2, 3] (by kernel_rfl) (fun K hK => ?_)
        simp only [Act.put, List.foldl_cons, List.foldl_nil, List.setIfInBounds_toArray, List.set_cons_zero, List.set_cons_succ] at hK ⊢
        clear hj hf
        rw [e1] at hK ⊢
        clear e1
        go_simp
        exact hK _ _ (fun k v _ _ h => h.keep (Below.refl _ _)) (fun t ht => SJ.of (.eq (.bool false)) rfl rfl) (hcm.trans ((Below.refl _ _).mono hcm.size))
      · have gg := hj.got 8 _ _ rfl rfl (up_dep hr (by kernel_rfl))
        exact GJ.no hj (by kernel_rfl) hr rfl [85, 86, 87, 88, 89, 90, 91, 92, 93, 94, 95, 96, 97, 2, 3] (by kernel_rfl) rfl (j := 8) rfl rfl (c := false) gg rfl (fun k v _ _ h => h) (fun t ht => SJ.of .any rfl trivial) hcm
      · have gg := hj.got 8 _ _ rfl rfl (up_dep hr (by kernel_rfl))
        exact GJ.no hj (by kernel_rfl) hr rfl [85, 86, 87, 88, 89, 90, 91, 92, 93, 94, 95, 96, 97, 2, 3] (by kernel_rfl) rfl (j := 8) rfl rfl (c := false) gg rfl (fun k v _ _ h => h) (fun t ht => SJ.of .any rfl trivial) hcm
      · have gg := hj.got 8 _ _ rfl rfl (up_dep hr (by kernel_rfl))
        exact GJ.no hj (by kernel_rfl) hr rfl [85, 86, 87, 88, 89, 90, 91, 92, 93, 94, 95, 96, 97, 2, 3] (by kernel_rfl) rfl (j := 8) rfl rfl (c := false) gg rfl (fun k v _ _ h => h) (fun t ht => SJ.of .any rfl trivial) hcm
      · have e1 : f 93 = .bool false := hf 8 _ _ rfl rfl (up_dep hr (by kernel_rfl))
        refine GJ.op hj (by kernel_rfl) hr rfl [85, 86, 87, 88, 89, 90, 91, 92, 93, 94, 95, 96, 97, 2, 3] (by kernel_rfl) (fun K hK => ?_)
        simp only [Act.put, List.foldl_cons, List.foldl_nil, List.setIfInBounds_toArray, List.set_cons_zero, List.set_cons_succ] at hK ⊢
        clear hj hf
        rw [e1] at hK ⊢
        clear e1
        go_simp
        exact hK _ _ (fun k v _ _ h => h.keep (Below.refl _ _)) (fun t ht => SJ.of (.eq (.bool false)) rfl rfl) (hcm.trans ((Below.refl _ _).mono hcm.size))
      · have HOW : OwnI w9 0 (f 91) [r.place, r.id, r.lease] := hf 6 _ _ rfl rfl (up_dep hr (by kernel_rfl))
        refine GJ.op hj (by kernel_rfl) hr rfl [85, 86, 87, 88, 89, 90, 91, 92, 93, 94, 95, 96, 97, 2, 3] (by kernel_rfl) (fun K hK => ?_)
        simp only [Act.put, List.foldl_cons, List.foldl_nil, List.setIfInBounds_toArray, List.set_cons_zero, List.set_cons_succ] at hK ⊢
        clear hj hf
        generalize f 91 = u9 at HOW hK ⊢
        have HOW := Lib.hid HOW
        go_simp
        exact hK _ _ (fun k v _ _ h => h.keep (Below.refl _ _)) (fun t ht => SJ.of (.own [r.place, r.id, r.lease]) rfl HOW.out) hcm
      · have e1 : f 97 = .bool false := hf 12 _ _ rfl rfl (up_dep hr (by kernel_rfl))
        refine GJ.op hj (by kernel_rfl) hr rfl [85, 86, 87, 88, 89, 90, 91, 92, 93, 94, 95, 96, 97, 2, 3] (by kernel_rfl) (fun K hK => ?_)
        simp only [Act.put, List.foldl_cons, List.foldl_nil, List.setIfInBounds_toArray, List.set_cons_zero, List.set_cons_succ] at hK ⊢
        clear hj hf
        rw [e1] at hK ⊢
        clear e1
        go_simp
        exact hK _ _ (fun k v _ _ h => h.keep (Below.refl _ _)) (fun t ht => SJ.of (.eq (.bool false)) rfl rfl) (hcm.trans ((Below.refl _ _).mono hcm.size))
    · intro listed a_ w10 hr hj
      have hu : ∀ k, k < 15 → up listed k := fun k hk => all_up (by kernel_rfl) hj.lsize hr k hk
      obtain ⟨f, rfl, hcm, hf⟩ := hj.opened [85, 86, 87, 88, 89, 90, 91, 92, 93, 94, 95, 96, 97, 2, 3] (by kernel_rfl)
      replace hcm : Below W0.heap.size W0 w10 := hcm
      have HLast : f 3 = .bool false := hf 14 _ _ rfl rfl (hu 14 (by omega))
      have HOW : OwnI w10 0 (f 2) [r.place, r.id, r.lease] := hf 13 _ _ rfl rfl (hu 13 (by omega))
      have HBR := Lib.hid hcm
      clear hf hj hr hu hcm
      simp only [List.foldl_cons, List.foldl_nil, List.setIfInBounds_toArray, List.set_cons_zero, List.set_cons_succ]
      rw [HLast]
      clear HLast
      generalize f 85 = g85
      generalize f 86 = g86
      generalize f 87 = g87
      generalize f 88 = g88
      generalize f 89 = g89
      generalize f 90 = g90
      generalize f 91 = g91
      generalize f 92 = g92
      generalize f 93 = g93
      generalize f 94 = g94
      generalize f 95 = g95
      generalize f 96 = g96
      generalize f 97 = g97
      generalize f 2 = g2 at HOW ⊢
      clear f
      go_wp2_with fail
      go_ret2
      exact ⟨_, _, rfl, HP.out, fun hb => by rw [HN.out]; exact HOW.sl, HB.out.trans (HBR.out.mono HB.out.size)⟩
  have b2 : ((r.after.length : Int) == 0) = true := by rw [ha]; rfl
  have HN := Lib.hid (nums_2 hk)
  obtain ⟨za, hza⟩ : ∃ z, ((r.ans : Int) == 0) = z := ⟨_, rfl⟩
  have HP : Hid ((1 ≤ r.kind ∧ r.kind ≤ 5) → za = decide (Bare r)) := fun _ => by rw [← hza, Bool.eq_iff_iff, beq_iff_eq, decide_eq_true_iff, bare_2 hk]; simp [hs, ha]; try omega
  clear hs ha hk
  go_enter Tryz.func30, Tryz.ntmps30
  go_upto_region 1 with fail
  rw [← hW]
  clear hW
  go_upto_region 13 with fail
  refine wp_region_gj (J := GJ _ (fun _ => SJ 0 (fun κ => match κ with | 0 => (.eq (.pointer (some ⟨w.heap.size, 1, none⟩))) | 1 => (.eq (.int .i64 r.place)) | 2 => (.eq (.pointer (some ⟨w.heap.size, 2, none⟩))) | 3 => (.eq (.int .i64 r.id)) | 4 => (.eq (.pointer (some ⟨w.heap.size, 3, none⟩))) | 5 => (.eq (.int .i64 r.lease)) | 6 => (.own [r.place, r.id, r.lease]) | 7 => (.eq (.bool true)) | 8 => (.eq (.bool true)) | 9 => (.eq (.pointer (some ⟨w.heap.size, 4, none⟩))) | 10 => (.eq (.int .u8 (r.ans : Int))) | 11 => (.eq (.bool za)) | 12 => (.eq (.bool za)) | 13 => (.own [r.place, r.id, r.lease]) | 14 => (.eq (.bool za)) | _ => .any)) (fun _ _ w => Below W0.heap.size W0 w) _) (by kernel_rfl) ?_ ?_ (GJ.start (below_dr (Below.refl _ _)))
  · intro listed a_ w9 i_ hr hj
    obtain ⟨hi12, hun, _, _, _⟩ := ready_mem hr
    have h12 : i_ ∈ List.range 15 := List.mem_range.2 hi12
    simp only [List.range, List.range.loop, List.mem_cons, List.not_mem_nil, or_false] at h12
    obtain ⟨f, rfl, hcm, hf⟩ := hj.opened [85, 86, 87, 88, 89, 90, 91, 92, 93, 94, 95, 96, 97, 2, 3] (by kernel_rfl)
    replace hcm : Below W0.heap.size W0 w9 := hcm
    rcases h12 with rfl | rfl | rfl | rfl | rfl | rfl | rfl | rfl | rfl | rfl | rfl | rfl | rfl | rfl | rfl
    · have klt := Nat.lt_of_lt_of_le lx hcm.size
      refine GJ.op hj (by kernel_rfl) hr rfl [85, 86, 87, 88, 89, 90, 91, 92, 93, 94, 95, 96, 97, 2, 3] (by kernel_rfl) (fun K hK => ?_)
      simp only [Act.put, List.foldl_cons, List.foldl_nil, List.setIfInBounds_toArray, List.set_cons_zero, List.set_cons_succ] at hK ⊢
      clear hj hf
      go_simp
      exact hK _ _ (fun k v _ _ h => h.keep (Below.refl _ _)) (fun t ht => SJ.of (.eq (.pointer (some ⟨w.heap.size, 1, none⟩))) rfl rfl) (hcm.trans ((Below.refl _ _).mono hcm.size))
    · have e1 : f 85 = .pointer (some ⟨w.heap.size, 1, none⟩) := hf 0 _ _ rfl rfl (up_dep hr (by kernel_rfl))
      have kx := keep_cell hcm x1
      have klt := Nat.lt_of_lt_of_le lx hcm.size
      refine GJ.op hj (by kernel_rfl) hr rfl [85, 86, 87, 88, 89, 90, 91, 92, 93, 94, 95, 96, 97, 2, 3] (by kernel_rfl) (fun K hK => ?_)
      simp only [Act.put, List.foldl_cons, List.foldl_nil, List.setIfInBounds_toArray, List.set_cons_zero, List.set_cons_succ] at hK ⊢
      clear hj hf
      rw [e1] at hK ⊢
      clear e1
      go_simp
      exact hK _ _ (fun k v _ _ h => h.keep (Below.refl _ _)) (fun t ht => SJ.of (.eq (.int .i64 r.place)) rfl rfl) (hcm.trans ((Below.refl _ _).mono hcm.size))
    · have klt := Nat.lt_of_lt_of_le lx hcm.size
      refine GJ.op hj (by kernel_rfl) hr rfl [85, 86, 87, 88, 89, 90, 91, 92, 93, 94, 95, 96, 97, 2, 3] (by kernel_rfl) (fun K hK => ?_)
      simp only [Act.put, List.foldl_cons, List.foldl_nil, List.setIfInBounds_toArray, List.set_cons_zero, List.set_cons_succ] at hK ⊢
      clear hj hf
      go_simp
      exact hK _ _ (fun k v _ _ h => h.keep (Below.refl _ _)) (fun t ht => SJ.of (.eq (.pointer (some ⟨w.heap.size, 2, none⟩))) rfl rfl) (hcm.trans ((Below.refl _ _).mono hcm.size))
    · have e1 : f 87 = .pointer (some ⟨w.heap.size, 2, none⟩) := hf 2 _ _ rfl rfl (up_dep hr (by kernel_rfl))
      have kx := keep_cell hcm x2
      have klt := Nat.lt_of_lt_of_le lx hcm.size
      refine GJ.op hj (by kernel_rfl) hr rfl [85, 86, 87, 88, 89, 90, 91, 92, 93, 94, 95, 96, 97, 2, 3] (by kernel_rfl) (fun K hK => ?_)
      simp only [Act.put, List.foldl_cons, List.foldl_nil, List.setIfInBounds_toArray, List.set_cons_zero, List.set_cons_succ] at hK ⊢
      clear hj hf
      rw [e1] at hK ⊢
      clear e1
      go_simp
      exact hK _ _ (fun k v _ _ h => h.keep (Below.refl _ _)) (fun t ht => SJ.of (.eq (.int .i64 r.id)) rfl rfl) (hcm.trans ((Below.refl _ _).mono hcm.size))
    · have klt := Nat.lt_of_lt_of_le lx hcm.size
      refine GJ.op hj (by kernel_rfl) hr rfl [85, 86, 87, 88, 89, 90, 91, 92, 93, 94, 95, 96, 97, 2, 3] (by kernel_rfl) (fun K hK => ?_)
      simp only [Act.put, List.foldl_cons, List.foldl_nil, List.setIfInBounds_toArray, List.set_cons_zero, List.set_cons_succ] at hK ⊢
      clear hj hf
      go_simp
      exact hK _ _ (fun k v _ _ h => h.keep (Below.refl _ _)) (fun t ht => SJ.of (.eq (.pointer (some ⟨w.heap.size, 3, none⟩))) rfl rfl) (hcm.trans ((Below.refl _ _).mono hcm.size))
    · have e1 : f 89 = .pointer (some ⟨w.heap.size, 3, none⟩) := hf 4 _ _ rfl rfl (up_dep hr (by kernel_rfl))
      have kx := keep_cell hcm x3
      have klt := Nat.lt_of_lt_of_le lx hcm.size
      refine GJ.op hj (by kernel_rfl) hr rfl [85, 86, 87, 88, 89, 90, 91, 92, 93, 94, 95, 96, 97, 2, 3] (by kernel_rfl) (fun K hK => ?_)
      simp only [Act.put, List.foldl_cons, List.foldl_nil, List.setIfInBounds_toArray, List.set_cons_zero, List.set_cons_succ] at hK ⊢
      clear hj hf
      rw [e1] at hK ⊢
      clear e1
      go_simp
      exact hK _ _ (fun k v _ _ h => h.keep (Below.refl _ _)) (fun t ht => SJ.of (.eq (.int .i64 r.lease)) rfl rfl) (hcm.trans ((Below.refl _ _).mono hcm.size))
    · have e1 : f 86 = .int .i64 r.place := hf 1 _ _ rfl rfl (up_dep hr (by kernel_rfl))
      have e2 : f 88 = .int .i64 r.id := hf 3 _ _ rfl rfl (up_dep hr (by kernel_rfl))
      have e3 : f 90 = .int .i64 r.lease := hf 5 _ _ rfl rfl (up_dep hr (by kernel_rfl))
      obtain ⟨_, hp64, hid64, hl64, _⟩ := HOK.out
      have HOW := Lib.hid (OwnI.three w9 (Nat.zero_le _) hp64 hid64 hl64)
      clear hp64 hid64 hl64
      refine GJ.op hj (by kernel_rfl) hr rfl [85, 86, 87, 88, 89, 90, 91, 92, 93, 94, 95, 96, 97, 2, 3] (by kernel_rfl) (fun K hK => ?_)
      simp only [Act.put, List.foldl_cons, List.foldl_nil, List.setIfInBounds_toArray, List.set_cons_zero, List.set_cons_succ] at hK ⊢
      clear hj hf
      rw [e1, e2, e3] at hK ⊢
      clear e1 e2 e3
      go_simp
      exact hK _ _ (fun k v _ _ h => h.keep (held_alloc (Below.refl _ _))) (fun t ht => SJ.of (.own [r.place, r.id, r.lease]) rfl HOW.out) (hcm.trans ((held_alloc (Below.refl _ _)).mono hcm.size))
    · refine GJ.op hj (by kernel_rfl) hr rfl [85, 86, 87, 88, 89, 90, 91, 92, 93, 94, 95, 96, 97, 2, 3] (by kernel_rfl) (fun K hK => ?_)
      simp only [Act.put, List.foldl_cons, List.foldl_nil, List.setIfInBounds_toArray, List.set_cons_zero, List.set_cons_succ] at hK ⊢
      clear hj hf
      go_simp
      exact hK _ _ (fun k v _ _ h => h.keep (Below.refl _ _)) (fun t ht => SJ.of (.eq (.bool true)) rfl rfl) (hcm.trans ((Below.refl _ _).mono hcm.size))
    · have e1 : f 92 = .bool true := hf 7 _ _ rfl rfl (up_dep hr (by kernel_rfl))
      refine GJ.op hj (by kernel_rfl) hr rfl [85, 86, 87, 88, 89, 90, 91, 92, 93, 94, 95, 96, 97, 2, 3] (by kernel_rfl) (fun K hK => ?_)
      simp only [Act.put, List.foldl_cons, List.foldl_nil, List.setIfInBounds_toArray, List.set_cons_zero, List.set_cons_succ] at hK ⊢
      clear hj hf
      rw [e1] at hK ⊢
      clear e1
      go_simp
      exact hK _ _ (fun k v _ _ h => h.keep (Below.refl _ _)) (fun t ht => SJ.of (.eq (.bool true)) rfl rfl) (hcm.trans ((Below.refl _ _).mono hcm.size))
    · have gg := hj.got 8 _ _ rfl rfl (up_dep hr (by kernel_rfl))
      have klt := Nat.lt_of_lt_of_le lx hcm.size
      refine GJ.yes hj (by kernel_rfl) hr rfl [85, 86, 87, 88, 89, 90, 91, 92, 93, 94, 95, 96, 97, 2, 3] (by kernel_rfl) rfl (j := 8) rfl rfl (c := true) gg rfl (fun K hK => ?_)
      clear gg
      simp only [Act.put, List.foldl_cons, List.foldl_nil, List.setIfInBounds_toArray, List.set_cons_zero, List.set_cons_succ] at hK ⊢
      clear hj hf
      go_simp
      exact hK _ _ (fun k v _ _ h => h.keep (Below.refl _ _)) (fun t ht => SJ.of (.eq (.pointer (some ⟨w.heap.size, 4, none⟩))) rfl rfl) (hcm.trans ((Below.refl _ _).mono hcm.size))
    · have gg := hj.got 8 _ _ rfl rfl (up_dep hr (by kernel_rfl))
      have e1 : f 94 = .pointer (some ⟨w.heap.size, 4, none⟩) := hf 9 _ _ rfl rfl (up_dep hr (by kernel_rfl))
      have kx := keep_cell hcm x4
      have klt := Nat.lt_of_lt_of_le lx hcm.size
      refine GJ.yes hj (by kernel_rfl) hr rfl [85, 86, 87, 88, 89, 90, 91, 92, 93, 94, 95, 96, 97, 2, 3] (by kernel_rfl) rfl (j := 8) rfl rfl (c := true) gg rfl (fun K hK => ?_)
      clear gg
      simp only [Act.put, List.foldl_cons, List.foldl_nil, List.setIfInBounds_toArray, List.set_cons_zero, List.set_cons_succ] at hK ⊢
      clear hj hf
      rw [e1] at hK ⊢
      clear e1
      go_simp
      exact hK _ _ (fun k v _ _ h => h.keep (Below.refl _ _)) (fun t ht => SJ.of (.eq (.int .u8 (r.ans : Int))) rfl rfl) (hcm.trans ((Below.refl _ _).mono hcm.size))
    · have gg := hj.got 8 _ _ rfl rfl (up_dep hr (by kernel_rfl))
      have e1 : f 95 = .int .u8 (r.ans : Int) := hf 10 _ _ rfl rfl (up_dep hr (by kernel_rfl))
      refine GJ.yes hj (by kernel_rfl) hr rfl [85, 86, 87, 88, 89, 90, 91, 92, 93, 94, 95, 96, 97, 2, 3] (by kernel_rfl) rfl (j := 8) rfl rfl (c := true) gg rfl (fun K hK => ?_)
      clear gg
      simp only [Act.put, List.foldl_cons, List.foldl_nil, List.setIfInBounds_toArray, List.set_cons_zero, List.set_cons_succ] at hK ⊢
      clear hj hf
      rw [e1] at hK ⊢
      clear e1
      go_simp
      exact hK _ _ (fun k v _ _ h => h.keep (Below.refl _ _)) (fun t ht => SJ.of (.eq (.bool za)) rfl rfl) (hcm.trans ((Below.refl _ _).mono hcm.size))
    · have e1 : f 93 = .bool true := hf 8 _ _ rfl rfl (up_dep hr (by kernel_rfl))
      have e2 : f 96 = .bool za := hf 11 _ _ rfl rfl (up_dep hr (by kernel_rfl))
      refine GJ.op hj (by kernel_rfl) hr rfl [85, 86, 87, 88, 89, 90, 91, 92, 93, 94, 95, 96, 97, 2, 3] (by kernel_rfl) (fun K hK => ?_)
      simp only [Act.put, List.foldl_cons, List.foldl_nil, List.setIfInBounds_toArray, List.set_cons_zero, List.set_cons_succ] at hK ⊢
      clear hj hf
      rw [e1, e2] at hK ⊢
      clear e1 e2
      go_simp
      exact hK _ _ (fun k v _ _ h => h.keep (Below.refl _ _)) (fun t ht => SJ.of (.eq (.bool za)) rfl rfl) (hcm.trans ((Below.refl _ _).mono hcm.size))
    · have HOW : OwnI w9 0 (f 91) [r.place, r.id, r.lease] := hf 6 _ _ rfl rfl (up_dep hr (by kernel_rfl))
      refine GJ.op hj (by kernel_rfl) hr rfl [85, 86, 87, 88, 89, 90, 91, 92, 93, 94, 95, 96, 97, 2, 3] (by kernel_rfl) (fun K hK => ?_)
      simp only [Act.put, List.foldl_cons, List.foldl_nil, List.setIfInBounds_toArray, List.set_cons_zero, List.set_cons_succ] at hK ⊢
      clear hj hf
      generalize f 91 = u9 at HOW hK ⊢
      have HOW := Lib.hid HOW
      go_simp
      exact hK _ _ (fun k v _ _ h => h.keep (Below.refl _ _)) (fun t ht => SJ.of (.own [r.place, r.id, r.lease]) rfl HOW.out) hcm
    · have e1 : f 97 = .bool za := hf 12 _ _ rfl rfl (up_dep hr (by kernel_rfl))
      refine GJ.op hj (by kernel_rfl) hr rfl [85, 86, 87, 88, 89, 90, 91, 92, 93, 94, 95, 96, 97, 2, 3] (by kernel_rfl) (fun K hK => ?_)
      simp only [Act.put, List.foldl_cons, List.foldl_nil, List.setIfInBounds_toArray, List.set_cons_zero, List.set_cons_succ] at hK ⊢
      clear hj hf
      rw [e1] at hK ⊢
      clear e1
      go_simp
      exact hK _ _ (fun k v _ _ h => h.keep (Below.refl _ _)) (fun t ht => SJ.of (.eq (.bool za)) rfl rfl) (hcm.trans ((Below.refl _ _).mono hcm.size))
  · intro listed a_ w10 hr hj
    have hu : ∀ k, k < 15 → up listed k := fun k hk => all_up (by kernel_rfl) hj.lsize hr k hk
    obtain ⟨f, rfl, hcm, hf⟩ := hj.opened [85, 86, 87, 88, 89, 90, 91, 92, 93, 94, 95, 96, 97, 2, 3] (by kernel_rfl)
    replace hcm : Below W0.heap.size W0 w10 := hcm
    have HLast : f 3 = .bool za := hf 14 _ _ rfl rfl (hu 14 (by omega))
    have HOW : OwnI w10 0 (f 2) [r.place, r.id, r.lease] := hf 13 _ _ rfl rfl (hu 13 (by omega))
    have HBR := Lib.hid hcm
    clear hf hj hr hu hcm
    simp only [List.foldl_cons, List.foldl_nil, List.setIfInBounds_toArray, List.set_cons_zero, List.set_cons_succ]
    rw [HLast]
    clear HLast
    generalize f 85 = g85
    generalize f 86 = g86
    generalize f 87 = g87
    generalize f 88 = g88
    generalize f 89 = g89
    generalize f 90 = g90
    generalize f 91 = g91
    generalize f 92 = g92
    generalize f 93 = g93
    generalize f 94 = g94
    generalize f 95 = g95
    generalize f 96 = g96
    generalize f 97 = g97
    generalize f 2 = g2 at HOW ⊢
    clear f
    go_wp2_with fail
    go_ret2
    exact ⟨_, _, rfl, HP.out, fun hb => by rw [HN.out]; exact HOW.sl, HB.out.trans (HBR.out.mono HB.out.size)⟩
set_option maxRecDepth 100000 in
set_option maxHeartbeats 2000000 in
theorem rNumbers_3 (w : World) (v : Value) (r : Rec) (h : IsR w v r) (hk : r.kind = 3) : Calls Tryz.prog 30 #[v] w (RetN w r) := by
  obtain ⟨hok, vs, va, rfl, h1, h2⟩ := h
  obtain ⟨pS, cS, rfl, _, _, _⟩ := h1.2.shape
  obtain ⟨pL, cL, rfl⟩ : ∃ pL cL, va = .slice pL r.after.length cL := by
    obtain ⟨_, k2, _⟩ := h2
    obtain ⟨a, b, e', _⟩ := k2.shape
    exact ⟨a, b, e'⟩
  obtain ⟨W0, hW⟩ : ∃ W0, W0 = w.alloc (.cells #[.int .u8 (r.kind : Int), .int .i64 r.place, .int .i64 r.id, .int .i64 r.lease, .int .u8 (r.ans : Int), .slice pS r.steps.length cS, .slice pL r.after.length cL] 29) := ⟨_, rfl⟩
  have hb0 : Below w.heap.size w W0 := by rw [hW]; exact held_alloc (Below.refl _ _)
  have hbx : Box W0 w.heap.size #[.int .u8 (r.kind : Int), .int .i64 r.place, .int .i64 r.id, .int .i64 r.lease, .int .u8 (r.ans : Int), .slice pS r.steps.length cS, .slice pL r.after.length cL] 29 := by rw [hW]; exact Box.new _ _ _
  have HOK := Lib.hid hok
  have H1 := Lib.hid (h1.after hb0)
  have H2 := Lib.hid (h2.after hb0)
  have HB := Lib.hid hb0
  have BX := Lib.hid hbx
  have x0 : W0.cell? ⟨w.heap.size, 0, none⟩ = some (.int .u8 (r.kind : Int)) := hbx.cell 0
  have x1 : W0.cell? ⟨w.heap.size, 1, none⟩ = some (.int .i64 r.place) := hbx.cell 1
  have x2 : W0.cell? ⟨w.heap.size, 2, none⟩ = some (.int .i64 r.id) := hbx.cell 2
  have x3 : W0.cell? ⟨w.heap.size, 3, none⟩ = some (.int .i64 r.lease) := hbx.cell 3
  have x4 : W0.cell? ⟨w.heap.size, 4, none⟩ = some (.int .u8 (r.ans : Int)) := hbx.cell 4
  have x5 : W0.cell? ⟨w.heap.size, 5, none⟩ = some (.slice pS r.steps.length cS) := hbx.cell 5
  have x6 : W0.cell? ⟨w.heap.size, 6, none⟩ = some (.slice pL r.after.length cL) := hbx.cell 6
  have lx := hbx.lt
  clear hok h1 h2 hb0 hbx
  show Calls _ _ #[.agg #[.int .u8 (r.kind : Int), .int .i64 r.place, .int .i64 r.id, .int .i64 r.lease, .int .u8 (r.ans : Int), .slice pS r.steps.length cS, .slice pL r.after.length cL]] w _
  have HA8 : Hid (r.ans < 256) := HOK.out.2.2.2.2
  have HA64 : Hid (In64 (r.ans : Int)) := by have h8 := HA8.out; constructor <;> omega
  have k1 : ((r.kind : Int) == 1) = false := by rw [beq_eq_false_iff_ne]; omega
  have k2 : ((r.kind : Int) == 2) = false := by rw [beq_eq_false_iff_ne]; omega
  have k3 : ((r.kind : Int) == 3) = true := by rw [beq_iff_eq]; omega
  by_cases hs : r.steps = []
  rotate_left
  · have hs0 : 0 < r.steps.length := List.length_pos_iff.2 hs
    have b1 : ((r.steps.length : Int) == 0) = false := by rw [beq_eq_false_iff_ne]; omega
    have HN := Lib.hid (nums_3 hk)
    have HP : Hid ((1 ≤ r.kind ∧ r.kind ≤ 5) → false = decide (Bare r)) := fun _ => (decide_eq_false (fun e => by rw [bare_3 hk] at e; exact hs e.1)).symm
    clear hs hs0 hk
    go_enter Tryz.func30, Tryz.ntmps30
    go_upto_region 1 with fail
    rw [← hW]
    clear hW
    go_upto_region 15 with fail
    refine wp_region_gj (J := GJ _ (fun _ => SJ 0 (fun κ => match κ with | 0 => (.eq (.pointer (some ⟨w.heap.size, 2, none⟩))) | 1 => (.eq (.int .i64 r.id)) | 2 => (.eq (.pointer (some ⟨w.heap.size, 4, none⟩))) | 3 => (.eq (.int .u8 (r.ans : Int))) | 4 => (.eq (.int .i64 (r.ans : Int))) | 5 => (.own [r.id, (r.ans : Int)]) | 6 => (.eq (.bool false)) | 7 => (.eq (.bool false)) | 11 => (.eq (.bool false)) | 12 => (.eq (.bool false)) | 16 => (.eq (.bool false)) | 17 => (.own [r.id, (r.ans : Int)]) | 18 => (.eq (.bool false)) | _ => .any)) (fun _ _ w => Below W0.heap.size W0 w) _) (by kernel_rfl) ?_ ?_ (GJ.start (below_dr (Below.refl _ _)))
    · intro listed a_ w9 i_ hr hj
      obtain ⟨hi12, hun, _, _, _⟩ := ready_mem hr
      have h12 : i_ ∈ List.range 19 := List.mem_range.2 hi12
      simp only [List.range, List.range.loop, List.mem_cons, List.not_mem_nil, or_false] at h12
      obtain ⟨f, rfl, hcm, hf⟩ := hj.opened [100, 101, 102, 103, 104, 105, 106, 107, 108, 109, 110, 111, 112, 113, 114, 115, 116, 2, 3] (by kernel_rfl)
      replace hcm : Below W0.heap.size W0 w9 := hcm
      rcases h12 with rfl | rfl | rfl | rfl | rfl | rfl | rfl | rfl | rfl | rfl | rfl | rfl | rfl | rfl | rfl | rfl | rfl | rfl | rfl
      · have klt := Nat.lt_of_lt_of_le lx hcm.size
        refine GJ.op hj (by kernel_rfl) hr rfl [100, 101, 102, 103, 104, 105, 106, 107, 108, 109, 110, 111, 112, 113, 114, 115, 116, 2, 3] (by kernel_rfl) (fun K hK => ?_)
        simp only [Act.put, List.foldl_cons, List.foldl_nil, List.setIfInBounds_toArray, List.set_cons_zero, List.set_cons_succ] at hK ⊢
        clear hj hf
        go_simp
        exact hK _ _ (fun k v _ _ h => h.keep (Below.refl _ _)) (fun t ht => SJ.of (.eq (.pointer (some ⟨w.heap.size, 2, none⟩))) rfl rfl) (hcm.trans ((Below.refl _ _).mono hcm.size))
      · have e1 : f 100 = .pointer (some ⟨w.heap.size, 2, none⟩) := hf 0 _ _ rfl rfl (up_dep hr (by kernel_rfl))
        have kx := keep_cell hcm x2
        have klt := Nat.lt_of_lt_of_le lx hcm.size
        refine GJ.op hj (by kernel_rfl) hr rfl [100, 101, 102, 103, 104, 105, 106, 107, 108, 109, 110, 111, 112, 113, 114, 115, 116, 2, 3] (by kernel_rfl) (fun K hK => ?_)
        simp only [Act.put, List.foldl_cons, List.foldl_nil, List.setIfInBounds_toArray, List.set_cons_zero, List.set_cons_succ] at hK ⊢
        clear hj hf
        rw [e1] at hK ⊢
        clear e1
        go_simp
        exact hK _ _ (fun k v _ _ h => h.keep (Below.refl _ _)) (fun t ht => SJ.of (.eq (.int .i64 r.id)) rfl rfl) (hcm.trans ((Below.refl _ _).mono hcm.size))
      · have klt := Nat.lt_of_lt_of_le lx hcm.size
        refine GJ.op hj (by kernel_rfl) hr rfl [100, 101, 102, 103, 104, 105, 106, 107, 108, 109, 110, 111, 112, 113, 114, 115, 116, 2, 3] (by kernel_rfl) (fun K hK => ?_)
        simp only [Act.put, List.foldl_cons, List.foldl_nil, List.setIfInBounds_toArray, List.set_cons_zero, List.set_cons_succ] at hK ⊢
        clear hj hf
        go_simp
        exact hK _ _ (fun k v _ _ h => h.keep (Below.refl _ _)) (fun t ht => SJ.of (.eq (.pointer (some ⟨w.heap.size, 4, none⟩))) rfl rfl) (hcm.trans ((Below.refl _ _).mono hcm.size))
      · have e1 : f 102 = .pointer (some ⟨w.heap.size, 4, none⟩) := hf 2 _ _ rfl rfl (up_dep hr (by kernel_rfl))
        have kx := keep_cell hcm x4
        have klt := Nat.lt_of_lt_of_le lx hcm.size
        refine GJ.op hj (by kernel_rfl) hr rfl [100, 101, 102, 103, 104, 105, 106, 107, 108, 109, 110, 111, 112, 113, 114, 115, 116, 2, 3] (by kernel_rfl) (fun K hK => ?_)
        simp only [Act.put, List.foldl_cons, List.foldl_nil, List.setIfInBounds_toArray, List.set_cons_zero, List.set_cons_succ] at hK ⊢
        clear hj hf
        rw [e1] at hK ⊢
        clear e1
        go_simp
        exact hK _ _ (fun k v _ _ h => h.keep (Below.refl _ _)) (fun t ht => SJ.of (.eq (.int .u8 (r.ans : Int))) rfl rfl) (hcm.trans ((Below.refl _ _).mono hcm.size))
      · have e1 : f 103 = .int .u8 (r.ans : Int) := hf 3 _ _ rfl rfl (up_dep hr (by kernel_rfl))
        have ha8 := HA8.out
        refine GJ.op hj (by kernel_rfl) hr rfl [100, 101, 102, 103, 104, 105, 106, 107, 108, 109, 110, 111, 112, 113, 114, 115, 116, 2, 3] (by kernel_rfl) (fun K hK => ?_)
        simp only [Act.put, List.foldl_cons, List.foldl_nil, List.setIfInBounds_toArray, List.set_cons_zero, List.set_cons_succ] at hK ⊢
        clear hj hf
        rw [e1] at hK ⊢
        clear e1
        go_simp
        rw [wrap_in (z := (r.ans : Int)) (by omega) (by omega)]
        exact hK _ _ (fun k v _ _ h => h.keep (Below.refl _ _)) (fun t ht => SJ.of (.eq (.int .i64 (r.ans : Int))) rfl rfl) (hcm.trans ((Below.refl _ _).mono hcm.size))
      · have e1 : f 101 = .int .i64 r.id := hf 1 _ _ rfl rfl (up_dep hr (by kernel_rfl))
        have e2 : f 104 = .int .i64 (r.ans : Int) := hf 4 _ _ rfl rfl (up_dep hr (by kernel_rfl))
        obtain ⟨_, _, hid64, _, _⟩ := HOK.out
        have HOW := Lib.hid (OwnI.two w9 (Nat.zero_le _) hid64 HA64.out)
        clear hid64
        refine GJ.op hj (by kernel_rfl) hr rfl [100, 101, 102, 103, 104, 105, 106, 107, 108, 109, 110, 111, 112, 113, 114, 115, 116, 2, 3] (by kernel_rfl) (fun K hK => ?_)
        simp only [Act.put, List.foldl_cons, List.foldl_nil, List.setIfInBounds_toArray, List.set_cons_zero, List.set_cons_succ] at hK ⊢
        clear hj hf
        rw [e1, e2] at hK ⊢
        clear e1 e2
        go_simp
        exact hK _ _ (fun k v _ _ h => h.keep (held_alloc (Below.refl _ _))) (fun t ht => SJ.of (.own [r.id, (r.ans : Int)]) rfl HOW.out) (hcm.trans ((held_alloc (Below.refl _ _)).mono hcm.size))
      · refine GJ.op hj (by kernel_rfl) hr rfl [100, 101, 102, 103, 104, 105, 106, 107, 108, 109, 110, 111, 112, 113, 114, 115, 116, 2, 3] (by kernel_rfl) (fun K hK => ?_)
        simp only [Act.put, List.foldl_cons, List.foldl_nil, List.setIfInBounds_toArray, List.set_cons_zero, List.set_cons_succ] at hK ⊢
        clear hj hf
        go_simp
        exact hK _ _ (fun k v _ _ h => h.keep (Below.refl _ _)) (fun t ht => SJ.of (.eq (.bool false)) rfl rfl) (hcm.trans ((Below.refl _ _).mono hcm.size))
      · have e1 : f 106 = .bool false := hf 6 _ _ rfl rfl (up_dep hr (by kernel_rfl))
        refine GJ.op hj (by kernel_rfl) hr rfl [100, 101, 102, 103, 104, 105, 106, 107, 108, 109, 110, 111, 112, 113, 114, 115, 116, 2, 3] (by kernel_rfl) (fun K hK => ?_)
        simp only [Act.put, List.foldl_cons, List.foldl_nil, List.setIfInBounds_toArray, List.set_cons_zero, List.set_cons_succ] at hK ⊢
        clear hj hf
        rw [e1] at hK ⊢
        clear e1
        go_simp
        exact hK _ _ (fun k v _ _ h => h.keep (Below.refl _ _)) (fun t ht => SJ.of (.eq (.bool false)) rfl rfl) (hcm.trans ((Below.refl _ _).mono hcm.size))
      · have gg := hj.got 7 _ _ rfl rfl (up_dep hr (by kernel_rfl))
        exact GJ.no hj (by kernel_rfl) hr rfl [100, 101, 102, 103, 104, 105, 106, 107, 108, 109, 110, 111, 112, 113, 114, 115, 116, 2, 3] (by kernel_rfl) rfl (j := 7) rfl rfl (c := false) gg rfl (fun k v _ _ h => h) (fun t ht => SJ.of .any rfl trivial) hcm
      · have gg := hj.got 7 _ _ rfl rfl (up_dep hr (by kernel_rfl))
        exact GJ.no hj (by kernel_rfl) hr rfl [100, 101, 102, 103, 104, 105, 106, 107, 108, 109, 110, 111, 112, 113, 114, 115, 116, 2, 3] (by kernel_rfl) rfl (j := 7) rfl rfl (c := false) gg rfl (fun k v _ _ h => h) (fun t ht => SJ.of .any rfl trivial) hcm
      · have gg := hj.got 7 _ _ rfl rfl (up_dep hr (by kernel_rfl))
        exact GJ.no hj (by kernel_rfl) hr rfl [100, 101, 102, 103, 104, 105, 106, 107, 108, 109, 110, 111, 112, 113, 114, 115, 116, 2, 3] (by kernel_rfl) rfl (j := 7) rfl rfl (c := false) gg rfl (fun k v _ _ h => h) (fun t ht => SJ.of .any rfl trivial) hcm
      · have e1 : f 107 = .bool false := hf 7 _ _ rfl rfl (up_dep hr (by kernel_rfl))
        refine GJ.op hj (by kernel_rfl) hr rfl [100, 101, 102, 103, 104, 105, 106, 107, 108, 109, 110, 111, 112, 113, 114, 115, 116, 2, 3] (by kernel_rfl) (fun K hK => ?_)
        simp only [Act.put, List.foldl_cons, List.foldl_nil, List.setIfInBounds_toArray, List.set_cons_zero, List.set_cons_succ] at hK ⊢
        clear hj hf
        rw [e1] at hK ⊢
        clear e1
        go_simp
        exact hK _ _ (fun k v _ _ h => h.keep (Below.refl _ _)) (fun t ht => SJ.of (.eq (.bool false)) rfl rfl) (hcm.trans ((Below.refl _ _).mono hcm.size))
      · have e1 : f 111 = .bool false := hf 11 _ _ rfl rfl (up_dep hr (by kernel_rfl))
        refine GJ.op hj (by kernel_rfl) hr rfl [100, 101, 102, 103, 104, 105, 106, 107, 108, 109, 110, 111, 112, 113, 114, 115, 116, 2, 3] (by kernel_rfl) (fun K hK => ?_)
        simp only [Act.put, List.foldl_cons, List.foldl_nil, List.setIfInBounds_toArray, List.set_cons_zero, List.set_cons_succ] at hK ⊢
        clear hj hf
        rw [e1] at hK ⊢
        clear e1
        go_simp
        exact hK _ _ (fun k v _ _ h => h.keep (Below.refl _ _)) (fun t ht => SJ.of (.eq (.bool false)) rfl rfl) (hcm.trans ((Below.refl _ _).mono hcm.size))
      · have gg := hj.got 12 _ _ rfl rfl (up_dep hr (by kernel_rfl))
        exact GJ.no hj (by kernel_rfl) hr rfl [100, 101, 102, 103, 104, 105, 106, 107, 108, 109, 110, 111, 112, 113, 114, 115, 116, 2, 3] (by kernel_rfl) rfl (j := 12) rfl rfl (c := false) gg rfl (fun k v _ _ h => h) (fun t ht => SJ.of .any rfl trivial) hcm
      · have gg := hj.got 12 _ _ rfl rfl (up_dep hr (by kernel_rfl))
        exact GJ.no hj (by kernel_rfl) hr rfl [100, 101, 102, 103, 104, 105, 106, 107, 108, 109, 110, 111, 112, 113, 114, 115, 116, 2, 3] (by kernel_rfl) rfl (j := 12) rfl rfl (c := false) gg rfl (fun k v _ _ h => h) (fun t ht => SJ.of .any rfl trivial) hcm
      · have gg := hj.got 12 _ _ rfl rfl (up_dep hr (by kernel_rfl))
        exact GJ.no hj (by kernel_rfl) hr rfl [100, 101, 102, 103, 104, 105, 106, 107, 108, 109, 110, 111, 112, 113, 114, 115, 116, 2, 3] (by kernel_rfl) rfl (j := 12) rfl rfl (c := false) gg rfl (fun k v _ _ h => h) (fun t ht => SJ.of .any rfl trivial) hcm
      · have e1 : f 112 = .bool false := hf 12 _ _ rfl rfl (up_dep hr (by kernel_rfl))
        refine GJ.op hj (by kernel_rfl) hr rfl [100, 101, 102, 103, 104, 105, 106, 107, 108, 109, 110, 111, 112, 113, 114, 115, 116, 2, 3] (by kernel_rfl) (fun K hK => ?_)
        simp only [Act.put, List.foldl_cons, List.foldl_nil, List.setIfInBounds_toArray, List.set_cons_zero, List.set_cons_succ] at hK ⊢
        clear hj hf
        rw [e1] at hK ⊢
        clear e1
        go_simp
        exact hK _ _ (fun k v _ _ h => h.keep (Below.refl _ _)) (fun t ht => SJ.of (.eq (.bool false)) rfl rfl) (hcm.trans ((Below.refl _ _).mono hcm.size))
      · have HOW : OwnI w9 0 (f 105) [r.id, (r.ans : Int)] := hf 5 _ _ rfl rfl (up_dep hr (by kernel_rfl))
        refine GJ.op hj (by kernel_rfl) hr rfl [100, 101, 102, 103, 104, 105, 106, 107, 108, 109, 110, 111, 112, 113, 114, 115, 116, 2, 3] (by kernel_rfl) (fun K hK => ?_)
        simp only [Act.put, List.foldl_cons, List.foldl_nil, List.setIfInBounds_toArray, List.set_cons_zero, List.set_cons_succ] at hK ⊢
        clear hj hf
        generalize f 105 = u9 at HOW hK ⊢
        have HOW := Lib.hid HOW
        go_simp
        exact hK _ _ (fun k v _ _ h => h.keep (Below.refl _ _)) (fun t ht => SJ.of (.own [r.id, (r.ans : Int)]) rfl HOW.out) hcm
      · have e1 : f 116 = .bool false := hf 16 _ _ rfl rfl (up_dep hr (by kernel_rfl))
        refine GJ.op hj (by kernel_rfl) hr rfl [100, 101, 102, 103, 104, 105, 106, 107, 108, 109, 110, 111, 112, 113, 114, 115, 116, 2, 3] (by kernel_rfl) (fun K hK => ?_)
        simp only [Act.put, List.foldl_cons, List.foldl_nil, List.setIfInBounds_toArray, List.set_cons_zero, List.set_cons_succ] at hK ⊢
        clear hj hf
        rw [e1] at hK ⊢
        clear e1
        go_simp
        exact hK _ _ (fun k v _ _ h => h.keep (Below.refl _ _)) (fun t ht => SJ.of (.eq (.bool false)) rfl rfl) (hcm.trans ((Below.refl _ _).mono hcm.size))
    · intro listed a_ w10 hr hj
      have hu : ∀ k, k < 19 → up listed k := fun k hk => all_up (by kernel_rfl) hj.lsize hr k hk
      obtain ⟨f, rfl, hcm, hf⟩ := hj.opened [100, 101, 102, 103, 104, 105, 106, 107, 108, 109, 110, 111, 112, 113, 114, 115, 116, 2, 3] (by kernel_rfl)
      replace hcm : Below W0.heap.size W0 w10 := hcm
      have HLast : f 3 = .bool false := hf 18 _ _ rfl rfl (hu 18 (by omega))
      have HOW : OwnI w10 0 (f 2) [r.id, (r.ans : Int)] := hf 17 _ _ rfl rfl (hu 17 (by omega))
      have HBR := Lib.hid hcm
      clear hf hj hr hu hcm
      simp only [List.foldl_cons, List.foldl_nil, List.setIfInBounds_toArray, List.set_cons_zero, List.set_cons_succ]
      rw [HLast]
      clear HLast
      generalize f 100 = g100
      generalize f 101 = g101
      generalize f 102 = g102
      generalize f 103 = g103
      generalize f 104 = g104
      generalize f 105 = g105
      generalize f 106 = g106
      generalize f 107 = g107
      generalize f 108 = g108
      generalize f 109 = g109
      generalize f 110 = g110
      generalize f 111 = g111
      generalize f 112 = g112
      generalize f 113 = g113
      generalize f 114 = g114
      generalize f 115 = g115
      generalize f 116 = g116
      generalize f 2 = g2 at HOW ⊢
      clear f
      go_wp2_with fail
      go_ret2
      exact ⟨_, _, rfl, HP.out, fun hb => by rw [HN.out]; exact HOW.sl, HB.out.trans (HBR.out.mono HB.out.size)⟩
  have b1 : ((r.steps.length : Int) == 0) = true := by rw [hs]; rfl
  by_cases ha : r.after = []
  rotate_left
  · have ha0 : 0 < r.after.length := List.length_pos_iff.2 ha
    have b2 : ((r.after.length : Int) == 0) = false := by rw [beq_eq_false_iff_ne]; omega
    have HN := Lib.hid (nums_3 hk)
    have HP : Hid ((1 ≤ r.kind ∧ r.kind ≤ 5) → false = decide (Bare r)) := fun _ => (decide_eq_false (fun e => by rw [bare_3 hk] at e; exact ha e.2.1)).symm
    clear hs ha ha0 hk
    go_enter Tryz.func30, Tryz.ntmps30
    go_upto_region 1 with fail
    rw [← hW]
    clear hW
    go_upto_region 15 with fail
    refine wp_region_gj (J := GJ _ (fun _ => SJ 0 (fun κ => match κ with | 0 => (.eq (.pointer (some ⟨w.heap.size, 2, none⟩))) | 1 => (.eq (.int .i64 r.id)) | 2 => (.eq (.pointer (some ⟨w.heap.size, 4, none⟩))) | 3 => (.eq (.int .u8 (r.ans : Int))) | 4 => (.eq (.int .i64 (r.ans : Int))) | 5 => (.own [r.id, (r.ans : Int)]) | 6 => (.eq (.bool false)) | 7 => (.eq (.bool false)) | 11 => (.eq (.bool false)) | 12 => (.eq (.bool false)) | 16 => (.eq (.bool false)) | 17 => (.own [r.id, (r.ans : Int)]) | 18 => (.eq (.bool false)) | _ => .any)) (fun _ _ w => Below W0.heap.size W0 w) _) (by kernel_rfl) ?_ ?_ (GJ.start (below_dr (Below.refl _ _)))
    · intro listed a_ w9 i_ hr hj
      obtain ⟨hi12, hun, _, _, _⟩ := ready_mem hr
      have h12 : i_ ∈ List.range 19 := List.mem_range.2 hi12
      simp only [List.range, List.range.loop, List.mem_cons, List.not_mem_nil, or_false] at h12
      obtain ⟨f, rfl, hcm, hf⟩ := hj.opened [100, 101, 102, 103, 104, 105, 106, 107, 108, 109, 110, 111, 112, 113, 114, 115, 116, 2, 3] (by kernel_rfl)
      replace hcm : Below W0.heap.size W0 w9 := hcm
      rcases h12 with rfl | rfl | rfl | rfl | rfl | rfl | rfl | rfl | rfl | rfl | rfl | rfl | rfl | rfl | rfl | rfl | rfl | rfl | rfl
      · have klt := Nat.lt_of_lt_of_le lx hcm.size
        refine GJ.op hj (by kernel_rfl) hr rfl [100, 101, 102, 103, 104, 105, 106, 107, 108, 109, 110, 111, 112, 113, 114, 115, 116, 2, 3] (by kernel_rfl) (fun K hK => ?_)
        simp only [Act.put, List.foldl_cons, List.foldl_nil, List.setIfInBounds_toArray, List.set_cons_zero, List.set_cons_succ] at hK ⊢
        clear hj hf
        go_simp
        exact hK _ _ (fun k v _ _ h => h.keep (Below.refl _ _)) (fun t ht => SJ.of (.eq (.pointer (some ⟨w.heap.size, 2, none⟩))) rfl rfl) (hcm.trans ((Below.refl _ _).mono hcm.size))
      · have e1 : f 100 = .pointer (some ⟨w.heap.size, 2, none⟩) := hf 0 _ _ rfl rfl (up_dep hr (by kernel_rfl))
        have kx := keep_cell hcm x2
        have klt := Nat.lt_of_lt_of_le lx hcm.size
        refine GJ.op hj (by kernel_rfl) hr rfl [100, 101, 102, 103, 104, 105, 106, 107, 108, 109, 110, 111, 112, 113, 114, 115, 116, 2, 3] (by kernel_rfl) (fun K hK => ?_)
        simp only [Act.put, List.foldl_cons, List.foldl_nil, List.setIfInBounds_toArray, List.set_cons_zero, List.set_cons_succ] at hK ⊢
        clear hj hf
        rw [e1] at hK ⊢
        clear e1
        go_simp
        exact hK _ _ (fun k v _ _ h => h.keep (Below.refl _ _)) (fun t ht => SJ.of (.eq (.int .i64 r.id)) rfl rfl) (hcm.trans ((Below.refl _ _).mono hcm.size))
      · have klt := Nat.lt_of_lt_of_le lx hcm.size
        refine GJ.op hj (by kernel_rfl) hr rfl [100, 101, 102, 103, 104, 105, 106, 107, 108, 109, 110, 111, 112, 113, 114, 115, 116, 2, 3] (by kernel_rfl) (fun K hK => ?_)
        simp only [Act.put, List.foldl_cons, List.foldl_nil, List.setIfInBounds_toArray, List.set_cons_zero, List.set_cons_succ] at hK ⊢
        clear hj hf
        go_simp
        exact hK _ _ (fun k v _ _ h => h.keep (Below.refl _ _)) (fun t ht => SJ.of (.eq (.pointer (some ⟨w.heap.size, 4, none⟩))) rfl rfl) (hcm.trans ((Below.refl _ _).mono hcm.size))
      · have e1 : f 102 = .pointer (some ⟨w.heap.size, 4, none⟩) := hf 2 _ _ rfl rfl (up_dep hr (by kernel_rfl))
        have kx := keep_cell hcm x4
        have klt := Nat.lt_of_lt_of_le lx hcm.size
        refine GJ.op hj (by kernel_rfl) hr rfl [100, 101, 102, 103, 104, 105, 106, 107, 108, 109, 110, 111, 112, 113, 114, 115, 116, 2, 3] (by kernel_rfl) (fun K hK => ?_)
        simp only [Act.put, List.foldl_cons, List.foldl_nil, List.setIfInBounds_toArray, List.set_cons_zero, List.set_cons_succ] at hK ⊢
        clear hj hf
        rw [e1] at hK ⊢
        clear e1
        go_simp
        exact hK _ _ (fun k v _ _ h => h.keep (Below.refl _ _)) (fun t ht => SJ.of (.eq (.int .u8 (r.ans : Int))) rfl rfl) (hcm.trans ((Below.refl _ _).mono hcm.size))
      · have e1 : f 103 = .int .u8 (r.ans : Int) := hf 3 _ _ rfl rfl (up_dep hr (by kernel_rfl))
        have ha8 := HA8.out
        refine GJ.op hj (by kernel_rfl) hr rfl [100, 101, 102, 103, 104, 105, 106, 107, 108, 109, 110, 111, 112, 113, 114, 115, 116, 2, 3] (by kernel_rfl) (fun K hK => ?_)
        simp only [Act.put, List.foldl_cons, List.foldl_nil, List.setIfInBounds_toArray, List.set_cons_zero, List.set_cons_succ] at hK ⊢
        clear hj hf
        rw [e1] at hK ⊢
        clear e1
        go_simp
        rw [wrap_in (z := (r.ans : Int)) (by omega) (by omega)]
        exact hK _ _ (fun k v _ _ h => h.keep (Below.refl _ _)) (fun t ht => SJ.of (.eq (.int .i64 (r.ans : Int))) rfl rfl) (hcm.trans ((Below.refl _ _).mono hcm.size))
      · have e1 : f 101 = .int .i64 r.id := hf 1 _ _ rfl rfl (up_dep hr (by kernel_rfl))
        have e2 : f 104 = .int .i64 (r.ans : Int) := hf 4 _ _ rfl rfl (up_dep hr (by kernel_rfl))
        obtain ⟨_, _, hid64, _, _⟩ := HOK.out
        have HOW := Lib.hid (OwnI.two w9 (Nat.zero_le _) hid64 HA64.out)
        clear hid64
        refine GJ.op hj (by kernel_rfl) hr rfl [100, 101, 102, 103, 104, 105, 106, 107, 108, 109, 110, 111, 112, 113, 114, 115, 116, 2, 3] (by kernel_rfl) (fun K hK => ?_)
        simp only [Act.put, List.foldl_cons, List.foldl_nil, List.setIfInBounds_toArray, List.set_cons_zero, List.set_cons_succ] at hK ⊢
        clear hj hf
        rw [e1, e2] at hK ⊢
        clear e1 e2
        go_simp
        exact hK _ _ (fun k v _ _ h => h.keep (held_alloc (Below.refl _ _))) (fun t ht => SJ.of (.own [r.id, (r.ans : Int)]) rfl HOW.out) (hcm.trans ((held_alloc (Below.refl _ _)).mono hcm.size))
      · refine GJ.op hj (by kernel_rfl) hr rfl [100, 101, 102, 103, 104, 105, 106, 107, 108, 109, 110, 111, 112, 113, 114, 115, 116, 2, 3] (by kernel_rfl) (fun K hK => ?_)
        simp only [Act.put, List.foldl_cons, List.foldl_nil, List.setIfInBounds_toArray, List.set_cons_zero, List.set_cons_succ] at hK ⊢
        clear hj hf
        go_simp
        exact hK _ _ (fun k v _ _ h => h.keep (Below.refl _ _)) (fun t ht => SJ.of (.eq (.bool false)) rfl rfl) (hcm.trans ((Below.refl _ _).mono hcm.size))
      · have e1 : f 106 = .bool false := hf 6 _ _ rfl rfl (up_dep hr (by kernel_rfl))
        refine GJ.op hj (by kernel_rfl) hr rfl [100, 101, 102, 103, 104, 105, 106, 107, 108, 109, 110, 111, 112, 113, 114, 115, 116, 2, 3] (by kernel_rfl) (fun K hK => ?_)
        simp only [Act.put, List.foldl_cons, List.foldl_nil, List.setIfInBounds_toArray, List.set_cons_zero, List.set_cons_succ] at hK ⊢
        clear hj hf
        rw [e1] at hK ⊢
        clear e1
        go_simp
        exact hK _ _ (fun k v _ _ h => h.keep (Below.refl _ _)) (fun t ht => SJ.of (.eq (.bool false)) rfl rfl) (hcm.trans ((Below.refl _ _).mono hcm.size))
      · have gg := hj.got 7 _ _ rfl rfl (up_dep hr (by kernel_rfl))
        exact GJ.no hj (by kernel_rfl) hr rfl [100, 101, 102, 103, 104, 105, 106, 107, 108, 109, 110, 111, 112, 113, 114, 115, 116, 2, 3] (by kernel_rfl) rfl (j := 7) rfl rfl (c := false) gg rfl (fun k v _ _ h => h) (fun t ht => SJ.of .any rfl trivial) hcm
      · have gg := hj.got 7 _ _ rfl rfl (up_dep hr (by kernel_rfl))
        exact GJ.no hj (by kernel_rfl) hr rfl [100, 101, 102, 103, 104, 105, 106, 107, 108, 109, 110, 111, 112, 113, 114, 115, 116, 2, 3] (by kernel_rfl) rfl (j := 7) rfl rfl (c := false) gg rfl (fun k v _ _ h => h) (fun t ht => SJ.of .any rfl trivial) hcm
      · have gg := hj.got 7 _ _ rfl rfl (up_dep hr (by kernel_rfl))
        exact GJ.no hj (by kernel_rfl) hr rfl [100, 101, 102, 103, 104, 105, 106, 107, 108, 109, 110, 111, 112, 113, 114, 115, 116, 2, 3] (by kernel_rfl) rfl (j := 7) rfl rfl (c := false) gg rfl (fun k v _ _ h => h) (fun t ht => SJ.of .any rfl trivial) hcm
      · have e1 : f 107 = .bool false := hf 7 _ _ rfl rfl (up_dep hr (by kernel_rfl))
        refine GJ.op hj (by kernel_rfl) hr rfl [100, 101, 102, 103, 104, 105, 106, 107, 108, 109, 110, 111, 112, 113, 114, 115, 116, 2, 3] (by kernel_rfl) (fun K hK => ?_)
        simp only [Act.put, List.foldl_cons, List.foldl_nil, List.setIfInBounds_toArray, List.set_cons_zero, List.set_cons_succ] at hK ⊢
        clear hj hf
        rw [e1] at hK ⊢
        clear e1
        go_simp
        exact hK _ _ (fun k v _ _ h => h.keep (Below.refl _ _)) (fun t ht => SJ.of (.eq (.bool false)) rfl rfl) (hcm.trans ((Below.refl _ _).mono hcm.size))
      · have e1 : f 111 = .bool false := hf 11 _ _ rfl rfl (up_dep hr (by kernel_rfl))
        refine GJ.op hj (by kernel_rfl) hr rfl [100, 101, 102, 103, 104, 105, 106, 107, 108, 109, 110, 111, 112, 113, 114, 115, 116, 2, 3] (by kernel_rfl) (fun K hK => ?_)
        simp only [Act.put, List.foldl_cons, List.foldl_nil, List.setIfInBounds_toArray, List.set_cons_zero, List.set_cons_succ] at hK ⊢
        clear hj hf
        rw [e1] at hK ⊢
        clear e1
        go_simp
        exact hK _ _ (fun k v _ _ h => h.keep (Below.refl _ _)) (fun t ht => SJ.of (.eq (.bool false)) rfl rfl) (hcm.trans ((Below.refl _ _).mono hcm.size))
      · have gg := hj.got 12 _ _ rfl rfl (up_dep hr (by kernel_rfl))
        exact GJ.no hj (by kernel_rfl) hr rfl [100, 101, 102, 103, 104, 105, 106, 107, 108, 109, 110, 111, 112, 113, 114, 115, 116, 2, 3] (by kernel_rfl) rfl (j := 12) rfl rfl (c := false) gg rfl (fun k v _ _ h => h) (fun t ht => SJ.of .any rfl trivial) hcm
      · have gg := hj.got 12 _ _ rfl rfl (up_dep hr (by kernel_rfl))
        exact GJ.no hj (by kernel_rfl) hr rfl [100, 101, 102, 103, 104, 105, 106, 107, 108, 109, 110, 111, 112, 113, 114, 115, 116, 2, 3] (by kernel_rfl) rfl (j := 12) rfl rfl (c := false) gg rfl (fun k v _ _ h => h) (fun t ht => SJ.of .any rfl trivial) hcm
      · have gg := hj.got 12 _ _ rfl rfl (up_dep hr (by kernel_rfl))
        exact GJ.no hj (by kernel_rfl) hr rfl [100, 101, 102, 103, 104, 105, 106, 107, 108, 109, 110, 111, 112, 113, 114, 115, 116, 2, 3] (by kernel_rfl) rfl (j := 12) rfl rfl (c := false) gg rfl (fun k v _ _ h => h) (fun t ht => SJ.of .any rfl trivial) hcm
      · have e1 : f 112 = .bool false := hf 12 _ _ rfl rfl (up_dep hr (by kernel_rfl))
        refine GJ.op hj (by kernel_rfl) hr rfl [100, 101, 102, 103, 104, 105, 106, 107, 108, 109, 110, 111, 112, 113, 114, 115, 116, 2, 3] (by kernel_rfl) (fun K hK => ?_)
        simp only [Act.put, List.foldl_cons, List.foldl_nil, List.setIfInBounds_toArray, List.set_cons_zero, List.set_cons_succ] at hK ⊢
        clear hj hf
        rw [e1] at hK ⊢
        clear e1
        go_simp
        exact hK _ _ (fun k v _ _ h => h.keep (Below.refl _ _)) (fun t ht => SJ.of (.eq (.bool false)) rfl rfl) (hcm.trans ((Below.refl _ _).mono hcm.size))
      · have HOW : OwnI w9 0 (f 105) [r.id, (r.ans : Int)] := hf 5 _ _ rfl rfl (up_dep hr (by kernel_rfl))
        refine GJ.op hj (by kernel_rfl) hr rfl [100, 101, 102, 103, 104, 105, 106, 107, 108, 109, 110, 111, 112, 113, 114, 115, 116, 2, 3] (by kernel_rfl) (fun K hK => ?_)
        simp only [Act.put, List.foldl_cons, List.foldl_nil, List.setIfInBounds_toArray, List.set_cons_zero, List.set_cons_succ] at hK ⊢
        clear hj hf
        generalize f 105 = u9 at HOW hK ⊢
        have HOW := Lib.hid HOW
        go_simp
        exact hK _ _ (fun k v _ _ h => h.keep (Below.refl _ _)) (fun t ht => SJ.of (.own [r.id, (r.ans : Int)]) rfl HOW.out) hcm
      · have e1 : f 116 = .bool false := hf 16 _ _ rfl rfl (up_dep hr (by kernel_rfl))
        refine GJ.op hj (by kernel_rfl) hr rfl [100, 101, 102, 103, 104, 105, 106, 107, 108, 109, 110, 111, 112, 113, 114, 115, 116, 2, 3] (by kernel_rfl) (fun K hK => ?_)
        simp only [Act.put, List.foldl_cons, List.foldl_nil, List.setIfInBounds_toArray, List.set_cons_zero, List.set_cons_succ] at hK ⊢
        clear hj hf
        rw [e1] at hK ⊢
        clear e1
        go_simp
        exact hK _ _ (fun k v _ _ h => h.keep (Below.refl _ _)) (fun t ht => SJ.of (.eq (.bool false)) rfl rfl) (hcm.trans ((Below.refl _ _).mono hcm.size))
    · intro listed a_ w10 hr hj
      have hu : ∀ k, k < 19 → up listed k := fun k hk => all_up (by kernel_rfl) hj.lsize hr k hk
      obtain ⟨f, rfl, hcm, hf⟩ := hj.opened [100, 101, 102, 103, 104, 105, 106, 107, 108, 109, 110, 111, 112, 113, 114, 115, 116, 2, 3] (by kernel_rfl)
      replace hcm : Below W0.heap.size W0 w10 := hcm
      have HLast : f 3 = .bool false := hf 18 _ _ rfl rfl (hu 18 (by omega))
      have HOW : OwnI w10 0 (f 2) [r.id, (r.ans : Int)] := hf 17 _ _ rfl rfl (hu 17 (by omega))
      have HBR := Lib.hid hcm
      clear hf hj hr hu hcm
      simp only [List.foldl_cons, List.foldl_nil, List.setIfInBounds_toArray, List.set_cons_zero, List.set_cons_succ]
      rw [HLast]
      clear HLast
      generalize f 100 = g100
      generalize f 101 = g101
      generalize f 102 = g102
      generalize f 103 = g103
      generalize f 104 = g104
      generalize f 105 = g105
      generalize f 106 = g106
      generalize f 107 = g107
      generalize f 108 = g108
      generalize f 109 = g109
      generalize f 110 = g110
      generalize f 111 = g111
      generalize f 112 = g112
      generalize f 113 = g113
      generalize f 114 = g114
      generalize f 115 = g115
      generalize f 116 = g116
      generalize f 2 = g2 at HOW ⊢
      clear f
      go_wp2_with fail
      go_ret2
      exact ⟨_, _, rfl, HP.out, fun hb => by rw [HN.out]; exact HOW.sl, HB.out.trans (HBR.out.mono HB.out.size)⟩
  have b2 : ((r.after.length : Int) == 0) = true := by rw [ha]; rfl
  have HN := Lib.hid (nums_3 hk)
  by_cases hp : r.place = 0
  rotate_left
  · have HP : Hid ((1 ≤ r.kind ∧ r.kind ≤ 5) → false = decide (Bare r)) := fun _ => (decide_eq_false (fun e => by rw [bare_3 hk] at e; exact hp e.2.2.1)).symm
    have p1 : (r.place == 0) = false := by rw [beq_eq_false_iff_ne]; omega
    clear hs ha hk hp
    go_enter Tryz.func30, Tryz.ntmps30
    go_upto_region 1 with fail
    rw [← hW]
    clear hW
    go_upto_region 15 with fail
    refine wp_region_gj (J := GJ _ (fun _ => SJ 0 (fun κ => match κ with | 0 => (.eq (.pointer (some ⟨w.heap.size, 2, none⟩))) | 1 => (.eq (.int .i64 r.id)) | 2 => (.eq (.pointer (some ⟨w.heap.size, 4, none⟩))) | 3 => (.eq (.int .u8 (r.ans : Int))) | 4 => (.eq (.int .i64 (r.ans : Int))) | 5 => (.own [r.id, (r.ans : Int)]) | 6 => (.eq (.bool true)) | 7 => (.eq (.bool true)) | 8 => (.eq (.pointer (some ⟨w.heap.size, 1, none⟩))) | 9 => (.eq (.int .i64 r.place)) | 10 => (.eq (.bool false)) | 11 => (.eq (.bool false)) | 12 => (.eq (.bool false)) | 16 => (.eq (.bool false)) | 17 => (.own [r.id, (r.ans : Int)]) | 18 => (.eq (.bool false)) | _ => .any)) (fun _ _ w => Below W0.heap.size W0 w) _) (by kernel_rfl) ?_ ?_ (GJ.start (below_dr (Below.refl _ _)))
    · intro listed a_ w9 i_ hr hj
      obtain ⟨hi12, hun, _, _, _⟩ := ready_mem hr
      have h12 : i_ ∈ List.range 19 := List.mem_range.2 hi12
      simp only [List.range, List.range.loop, List.mem_cons, List.not_mem_nil, or_false] at h12
      obtain ⟨f, rfl, hcm, hf⟩ := hj.opened [100, 101, 102, 103, 104, 105, 106, 107, 108, 109, 110, 111, 112, 113, 114, 115, 116, 2, 3] (by kernel_rfl)
      replace hcm : Below W0.heap.size W0 w9 := hcm
      rcases h12 with rfl | rfl | rfl | rfl | rfl | rfl | rfl | rfl | rfl | rfl | rfl | rfl | rfl | rfl | rfl | rfl | rfl | rfl | rfl
      · have klt := Nat.lt_of_lt_of_le lx hcm.size
        refine GJ.op hj (by kernel_rfl) hr rfl [100, 101, 102, 103, 104, 105, 106, 107, 108, 109, 110, 111, 112, 113, 114, 115, 116, 2, 3] (by kernel_rfl) (fun K hK => ?_)
        simp only [Act.put, List.foldl_cons, List.foldl_nil, List.setIfInBounds_toArray, List.set_cons_zero, List.set_cons_succ] at hK ⊢
        clear hj hf
        go_simp
        exact hK _ _ (fun k v _ _ h => h.keep (Below.refl _ _)) (fun t ht => SJ.of (.eq (.pointer (some ⟨w.heap.size, 2, none⟩))) rfl rfl) (hcm.trans ((Below.refl _ _).mono hcm.size))
      · have e1 : f 100 = .pointer (some ⟨w.heap.size, 2, none⟩) := hf 0 _ _ rfl rfl (up_dep hr (by kernel_rfl))
        have kx := keep_cell hcm x2
        have klt := Nat.lt_of_lt_of_le lx hcm.size
        refine GJ.op hj (by kernel_rfl) hr rfl [100, 101, 102, 103, 104, 105, 106, 107, 108, 109, 110, 111, 112, 113, 114, 115, 116, 2, 3] (by kernel_rfl) (fun K hK => ?_)
        simp only [Act.put, List.foldl_cons, List.foldl_nil, List.setIfInBounds_toArray, List.set_cons_zero, List.set_cons_succ] at hK ⊢
        clear hj hf
        rw [e1] at hK ⊢
        clear e1
        go_simp
        exact hK _ _ (fun k v _ _ h => h.keep (Below.refl _ _)) (fun t ht => SJ.of (.eq (.int .i64 r.id)) rfl rfl) (hcm.trans ((Below.refl _ _).mono hcm.size))
      · have klt := Nat.lt_of_lt_of_le lx hcm.size
        refine GJ.op hj (by kernel_rfl) hr rfl [100, 101, 102, 103, 104, 105, 106, 107, 108, 109, 110, 111, 112, 113, 114, 115, 116, 2, 3] (by kernel_rfl) (fun K hK => ?_)
        simp only [Act.put, List.foldl_cons, List.foldl_nil, List.setIfInBounds_toArray, List.set_cons_zero, List.set_cons_succ] at hK ⊢
        clear hj hf
        go_simp
        exact hK _ _ (fun k v _ _ h => h.keep (Below.refl _ _)) (fun t ht => SJ.of (.eq (.pointer (some ⟨w.heap.size, 4, none⟩))) rfl rfl) (hcm.trans ((Below.refl _ _).mono hcm.size))
      · have e1 : f 102 = .pointer (some ⟨w.heap.size, 4, none⟩) := hf 2 _ _ rfl rfl (up_dep hr (by kernel_rfl))
        have kx := keep_cell hcm x4
        have klt := Nat.lt_of_lt_of_le lx hcm.size
        refine GJ.op hj (by kernel_rfl) hr rfl [100, 101, 102, 103, 104, 105, 106, 107, 108, 109, 110, 111, 112, 113, 114, 115, 116, 2, 3] (by kernel_rfl) (fun K hK => ?_)
        simp only [Act.put, List.foldl_cons, List.foldl_nil, List.setIfInBounds_toArray, List.set_cons_zero, List.set_cons_succ] at hK ⊢
        clear hj hf
        rw [e1] at hK ⊢
        clear e1
        go_simp
        exact hK _ _ (fun k v _ _ h => h.keep (Below.refl _ _)) (fun t ht => SJ.of (.eq (.int .u8 (r.ans : Int))) rfl rfl) (hcm.trans ((Below.refl _ _).mono hcm.size))
      · have e1 : f 103 = .int .u8 (r.ans : Int) := hf 3 _ _ rfl rfl (up_dep hr (by kernel_rfl))
        have ha8 := HA8.out
        refine GJ.op hj (by kernel_rfl) hr rfl [100, 101, 102, 103, 104, 105, 106, 107, 108, 109, 110, 111, 112, 113, 114, 115, 116, 2, 3] (by kernel_rfl) (fun K hK => ?_)
        simp only [Act.put, List.foldl_cons, List.foldl_nil, List.setIfInBounds_toArray, List.set_cons_zero, List.set_cons_succ] at hK ⊢
        clear hj hf
        rw [e1] at hK ⊢
        clear e1
        go_simp
        rw [wrap_in (z := (r.ans : Int)) (by omega) (by omega)]
        exact hK _ _ (fun k v _ _ h => h.keep (Below.refl _ _)) (fun t ht => SJ.of (.eq (.int .i64 (r.ans : Int))) rfl rfl) (hcm.trans ((Below.refl _ _).mono hcm.size))
      · have e1 : f 101 = .int .i64 r.id := hf 1 _ _ rfl rfl (up_dep hr (by kernel_rfl))
        have e2 : f 104 = .int .i64 (r.ans : Int) := hf 4 _ _ rfl rfl (up_dep hr (by kernel_rfl))
        obtain ⟨_, _, hid64, _, _⟩ := HOK.out
        have HOW := Lib.hid (OwnI.two w9 (Nat.zero_le _) hid64 HA64.out)
        clear hid64
        refine GJ.op hj (by kernel_rfl) hr rfl [100, 101, 102, 103, 104, 105, 106, 107, 108, 109, 110, 111, 112, 113, 114, 115, 116, 2, 3] (by kernel_rfl) (fun K hK => ?_)
        simp only [Act.put, List.foldl_cons, List.foldl_nil, List.setIfInBounds_toArray, List.set_cons_zero, List.set_cons_succ] at hK ⊢
        clear hj hf
        rw [e1, e2] at hK ⊢
        clear e1 e2
        go_simp
        exact hK _ _ (fun k v _ _ h => h.keep (held_alloc (Below.refl _ _))) (fun t ht => SJ.of (.own [r.id, (r.ans : Int)]) rfl HOW.out) (hcm.trans ((held_alloc (Below.refl _ _)).mono hcm.size))
      · refine GJ.op hj (by kernel_rfl) hr rfl [100, 101, 102, 103, 104, 105, 106, 107, 108, 109, 110, 111, 112, 113, 114, 115, 116, 2, 3] (by kernel_rfl) (fun K hK => ?_)
        simp only [Act.put, List.foldl_cons, List.foldl_nil, List.setIfInBounds_toArray, List.set_cons_zero, List.set_cons_succ] at hK ⊢
        clear hj hf
        go_simp
        exact hK _ _ (fun k v _ _ h => h.keep (Below.refl _ _)) (fun t ht => SJ.of (.eq (.bool true)) rfl rfl) (hcm.trans ((Below.refl _ _).mono hcm.size))
      · have e1 : f 106 = .bool true := hf 6 _ _ rfl rfl (up_dep hr (by kernel_rfl))
        refine GJ.op hj (by kernel_rfl) hr rfl [100, 101, 102, 103, 104, 105, 106, 107, 108, 109, 110, 111, 112, 113, 114, 115, 116, 2, 3] (by kernel_rfl) (fun K hK => ?_)
        simp only [Act.put, List.foldl_cons, List.foldl_nil, List.setIfInBounds_toArray, List.set_cons_zero, List.set_cons_succ] at hK ⊢
        clear hj hf
        rw [e1] at hK ⊢
        clear e1
        go_simp
        exact hK _ _ (fun k v _ _ h => h.keep (Below.refl _ _)) (fun t ht => SJ.of (.eq (.bool true)) rfl rfl) (hcm.trans ((Below.refl _ _).mono hcm.size))
      · have gg := hj.got 7 _ _ rfl rfl (up_dep hr (by kernel_rfl))
        have klt := Nat.lt_of_lt_of_le lx hcm.size
        refine GJ.yes hj (by kernel_rfl) hr rfl [100, 101, 102, 103, 104, 105, 106, 107, 108, 109, 110, 111, 112, 113, 114, 115, 116, 2, 3] (by kernel_rfl) rfl (j := 7) rfl rfl (c := true) gg rfl (fun K hK => ?_)
        clear gg
        simp only [Act.put, List.foldl_cons, List.foldl_nil, List.setIfInBounds_toArray, List.set_cons_zero, List.set_cons_succ] at hK ⊢
        clear hj hf
        go_simp
        exact hK _ _ (fun k v _ _ h => h.keep (Below.refl _ _)) (fun t ht => SJ.of (.eq (.pointer (some ⟨w.heap.size, 1, none⟩))) rfl rfl) (hcm.trans ((Below.refl _ _).mono hcm.size))
      · have gg := hj.got 7 _ _ rfl rfl (up_dep hr (by kernel_rfl))
        have e1 : f 108 = .pointer (some ⟨w.heap.size, 1, none⟩) := hf 8 _ _ rfl rfl (up_dep hr (by kernel_rfl))
        have kx := keep_cell hcm x1
        have klt := Nat.lt_of_lt_of_le lx hcm.size
        refine GJ.yes hj (by kernel_rfl) hr rfl [100, 101, 102, 103, 104, 105, 106, 107, 108, 109, 110, 111, 112, 113, 114, 115, 116, 2, 3] (by kernel_rfl) rfl (j := 7) rfl rfl (c := true) gg rfl (fun K hK => ?_)
        clear gg
        simp only [Act.put, List.foldl_cons, List.foldl_nil, List.setIfInBounds_toArray, List.set_cons_zero, List.set_cons_succ] at hK ⊢
        clear hj hf
        rw [e1] at hK ⊢
        clear e1
        go_simp
        exact hK _ _ (fun k v _ _ h => h.keep (Below.refl _ _)) (fun t ht => SJ.of (.eq (.int .i64 r.place)) rfl rfl) (hcm.trans ((Below.refl _ _).mono hcm.size))
      · have gg := hj.got 7 _ _ rfl rfl (up_dep hr (by kernel_rfl))
        have e1 : f 109 = .int .i64 r.place := hf 9 _ _ rfl rfl (up_dep hr (by kernel_rfl))
        refine GJ.yes hj (by kernel_rfl) hr rfl [100, 101, 102, 103, 104, 105, 106, 107, 108, 109, 110, 111, 112, 113, 114, 115, 116, 2, 3] (by kernel_rfl) rfl (j := 7) rfl rfl (c := true) gg rfl (fun K hK => ?_)
        clear gg
        simp only [Act.put, List.foldl_cons, List.foldl_nil, List.setIfInBounds_toArray, List.set_cons_zero, List.set_cons_succ] at hK ⊢
        clear hj hf
        rw [e1] at hK ⊢
        clear e1
        go_simp
        exact hK _ _ (fun k v _ _ h => h.keep (Below.refl _ _)) (fun t ht => SJ.of (.eq (.bool false)) rfl rfl) (hcm.trans ((Below.refl _ _).mono hcm.size))
      · have e1 : f 107 = .bool true := hf 7 _ _ rfl rfl (up_dep hr (by kernel_rfl))
        have e2 : f 110 = .bool false := hf 10 _ _ rfl rfl (up_dep hr (by kernel_rfl))
        refine GJ.op hj (by kernel_rfl) hr rfl [100, 101, 102, 103, 104, 105, 106, 107, 108, 109, 110, 111, 112, 113, 114, 115, 116, 2, 3] (by kernel_rfl) (fun K hK => ?_)
        simp only [Act.put, List.foldl_cons, List.foldl_nil, List.setIfInBounds_toArray, List.set_cons_zero, List.set_cons_succ] at hK ⊢
        clear hj hf
        rw [e1, e2] at hK ⊢
        clear e1 e2
        go_simp
        exact hK _ _ (fun k v _ _ h => h.keep (Below.refl _ _)) (fun t ht => SJ.of (.eq (.bool false)) rfl rfl) (hcm.trans ((Below.refl _ _).mono hcm.size))
      · have e1 : f 111 = .bool false := hf 11 _ _ rfl rfl (up_dep hr (by kernel_rfl))
        refine GJ.op hj (by kernel_rfl) hr rfl [100, 101, 102, 103, 104, 105, 106, 107, 108, 109, 110, 111, 112, 113, 114, 115, 116, 2, 3] (by kernel_rfl) (fun K hK => ?_)
        simp only [Act.put, List.foldl_cons, List.foldl_nil, List.setIfInBounds_toArray, List.set_cons_zero, List.set_cons_succ] at hK ⊢
        clear hj hf
        rw [e1] at hK ⊢
        clear e1
        go_simp
        exact hK _ _ (fun k v _ _ h => h.keep (Below.refl _ _)) (fun t ht => SJ.of (.eq (.bool false)) rfl rfl) (hcm.trans ((Below.refl _ _).mono hcm.size))
      · have gg := hj.got 12 _ _ rfl rfl (up_dep hr (by kernel_rfl))
        exact GJ.no hj (by kernel_rfl) hr rfl [100, 101, 102, 103, 104, 105, 106, 107, 108, 109, 110, 111, 112, 113, 114, 115, 116, 2, 3] (by kernel_rfl) rfl (j := 12) rfl rfl (c := false) gg rfl (fun k v _ _ h => h) (fun t ht => SJ.of .any rfl trivial) hcm
      · have gg := hj.got 12 _ _ rfl rfl (up_dep hr (by kernel_rfl))
        exact GJ.no hj (by kernel_rfl) hr rfl [100, 101, 102, 103, 104, 105, 106, 107, 108, 109, 110, 111, 112, 113, 114, 115, 116, 2, 3] (by kernel_rfl) rfl (j := 12) rfl rfl (c := false) gg rfl (fun k v _ _ h => h) (fun t ht => SJ.of .any rfl trivial) hcm
      · have gg := hj.got 12 _ _ rfl rfl (up_dep hr (by kernel_rfl))
        exact GJ.no hj (by kernel_rfl) hr rfl [100, 101, 102, 103, 104, 105, 106, 107, 108, 109, 110, 111, 112, 113, 114, 115, 116, 2, 3] (by kernel_rfl) rfl (j := 12) rfl rfl (c := false) gg rfl (fun k v _ _ h => h) (fun t ht => SJ.of .any rfl trivial) hcm
      · have e1 : f 112 = .bool false := hf 12 _ _ rfl rfl (up_dep hr (by kernel_rfl))
        refine GJ.op hj (by kernel_rfl) hr rfl [100, 101, 102, 103, 104, 105, 106, 107, 108, 109, 110, 111, 112, 113, 114, 115, 116, 2, 3] (by kernel_rfl) (fun K hK => ?_)
        simp only [Act.put, List.foldl_cons, List.foldl_nil, List.setIfInBounds_toArray, List.set_cons_zero, List.set_cons_succ] at hK ⊢
        clear hj hf
        rw [e1] at hK ⊢
        clear e1
        go_simp
        exact hK _ _ (fun k v _ _ h => h.keep (Below.refl _ _)) (fun t ht => SJ.of (.eq (.bool false)) rfl rfl) (hcm.trans ((Below.refl _ _).mono hcm.size))
      · have HOW : OwnI w9 0 (f 105) [r.id, (r.ans : Int)] := hf 5 _ _ rfl rfl (up_dep hr (by kernel_rfl))
        refine GJ.op hj (by kernel_rfl) hr rfl [100, 101, 102, 103, 104, 105, 106, 107, 108, 109, 110, 111, 112, 113, 114, 115, 116, 2, 3] (by kernel_rfl) (fun K hK => ?_)
        simp only [Act.put, List.foldl_cons, List.foldl_nil, List.setIfInBounds_toArray, List.set_cons_zero, List.set_cons_succ] at hK ⊢
        clear hj hf
        generalize f 105 = u9 at HOW hK ⊢
        have HOW := Lib.hid HOW
        go_simp
        exact hK _ _ (fun k v _ _ h => h.keep (Below.refl _ _)) (fun t ht => SJ.of (.own [r.id, (r.ans : Int)]) rfl HOW.out) hcm
      · have e1 : f 116 = .bool false := hf 16 _ _ rfl rfl (up_dep hr (by kernel_rfl))
        refine GJ.op hj (by kernel_rfl) hr rfl [100, 101, 102, 103, 104, 105, 106, 107, 108, 109, 110, 111, 112, 113, 114, 115, 116, 2, 3] (by kernel_rfl) (fun K hK => ?_)
        simp only [Act.put, List.foldl_cons, List.foldl_nil, List.setIfInBounds_toArray, List.set_cons_zero, List.set_cons_succ] at hK ⊢
        clear hj hf
        rw [e1] at hK ⊢
        clear e1
        go_simp
        exact hK _ _ (fun k v _ _ h => h.keep (Below.refl _ _)) (fun t ht => SJ.of (.eq (.bool false)) rfl rfl) (hcm.trans ((Below.refl _ _).mono hcm.size))
    · intro listed a_ w10 hr hj
      have hu : ∀ k, k < 19 → up listed k := fun k hk => all_up (by kernel_rfl) hj.lsize hr k hk
      obtain ⟨f, rfl, hcm, hf⟩ := hj.opened [100, 101, 102, 103, 104, 105, 106, 107, 108, 109, 110, 111, 112, 113, 114, 115, 116, 2, 3] (by kernel_rfl)
      replace hcm : Below W0.heap.size W0 w10 := hcm
      have HLast : f 3 = .bool false := hf 18 _ _ rfl rfl (hu 18 (by omega))
      have HOW : OwnI w10 0 (f 2) [r.id, (r.ans : Int)] := hf 17 _ _ rfl rfl (hu 17 (by omega))
      have HBR := Lib.hid hcm
      clear hf hj hr hu hcm
      simp only [List.foldl_cons, List.foldl_nil, List.setIfInBounds_toArray, List.set_cons_zero, List.set_cons_succ]
      rw [HLast]
      clear HLast
      generalize f 100 = g100
      generalize f 101 = g101
      generalize f 102 = g102
      generalize f 103 = g103
      generalize f 104 = g104
      generalize f 105 = g105
      generalize f 106 = g106
      generalize f 107 = g107
      generalize f 108 = g108
      generalize f 109 = g109
      generalize f 110 = g110
      generalize f 111 = g111
      generalize f 112 = g112
      generalize f 113 = g113
      generalize f 114 = g114
      generalize f 115 = g115
      generalize f 116 = g116
      generalize f 2 = g2 at HOW ⊢
      clear f
      go_wp2_with fail
      go_ret2
      exact ⟨_, _, rfl, HP.out, fun hb => by rw [HN.out]; exact HOW.sl, HB.out.trans (HBR.out.mono HB.out.size)⟩
  obtain ⟨zl, hzl⟩ : ∃ z, (r.lease == 0) = z := ⟨_, rfl⟩
  have HP : Hid ((1 ≤ r.kind ∧ r.kind ≤ 5) → zl = decide (Bare r)) := fun _ => by rw [← hzl, Bool.eq_iff_iff, beq_iff_eq, decide_eq_true_iff, bare_3 hk]; simp [hs, ha, hp]
  have p1 : (r.place == 0) = true := by rw [beq_iff_eq]; omega
  clear hs ha hk hp
  go_enter Tryz.func30, Tryz.ntmps30
  go_upto_region 1 with fail
  rw [← hW]
  clear hW
  go_upto_region 15 with fail
  refine wp_region_gj (J := GJ _ (fun _ => SJ 0 (fun κ => match κ with | 0 => (.eq (.pointer (some ⟨w.heap.size, 2, none⟩))) | 1 => (.eq (.int .i64 r.id)) | 2 => (.eq (.pointer (some ⟨w.heap.size, 4, none⟩))) | 3 => (.eq (.int .u8 (r.ans : Int))) | 4 => (.eq (.int .i64 (r.ans : Int))) | 5 => (.own [r.id, (r.ans : Int)]) | 6 => (.eq (.bool true)) | 7 => (.eq (.bool true)) | 8 => (.eq (.pointer (some ⟨w.heap.size, 1, none⟩))) | 9 => (.eq (.int .i64 r.place)) | 10 => (.eq (.bool true)) | 11 => (.eq (.bool true)) | 12 => (.eq (.bool true)) | 13 => (.eq (.pointer (some ⟨w.heap.size, 3, none⟩))) | 14 => (.eq (.int .i64 r.lease)) | 15 => (.eq (.bool zl)) | 16 => (.eq (.bool zl)) | 17 => (.own [r.id, (r.ans : Int)]) | 18 => (.eq (.bool zl)) | _ => .any)) (fun _ _ w => Below W0.heap.size W0 w) _) (by kernel_rfl) ?_ ?_ (GJ.start (below_dr (Below.refl _ _)))
  · intro listed a_ w9 i_ hr hj
    obtain ⟨hi12, hun, _, _, _⟩ := ready_mem hr
    have h12 : i_ ∈ List.range 19 := List.mem_range.2 hi12
    simp only [List.range, List.range.loop, List.mem_cons, List.not_mem_nil, or_false] at h12
    obtain ⟨f, rfl, hcm, hf⟩ := hj.opened [100, 101, 102, 103, 104, 105, 106, 107, 108, 109, 110, 111, 112, 113, 114, 115, 116, 2, 3] (by kernel_rfl)
    replace hcm : Below W0.heap.size W0 w9 := hcm
    rcases h12 with rfl | rfl | rfl | rfl | rfl | rfl | rfl | rfl | rfl | rfl | rfl | rfl | rfl | rfl | rfl | rfl | rfl | rfl | rfl
    · have klt := Nat.lt_of_lt_of_le lx hcm.size
      refine GJ.op hj (by kernel_rfl) hr rfl [100, 101, 102, 103, 104, 105, 106, 107, 108, 109, 110, 111, 112, 113, 114, 115, 116, 2, 3] (by kernel_rfl) (fun K hK => ?_)
      simp only [Act.put, List.foldl_cons, List.foldl_nil, List.setIfInBounds_toArray, List.set_cons_zero, List.set_cons_succ] at hK ⊢
      clear hj hf
      go_simp
      exact hK _ _ (fun k v _ _ h => h.keep (Below.refl _ _)) (fun t ht => SJ.of (.eq (.pointer (some ⟨w.heap.size, 2, none⟩))) rfl rfl) (hcm.trans ((Below.refl _ _).mono hcm.size))
    · have e1 : f 100 = .pointer (some ⟨w.heap.size, 2, none⟩) := hf 0 _ _ rfl rfl (up_dep hr (by kernel_rfl))
      have kx := keep_cell hcm x2
      have klt := Nat.lt_of_lt_of_le lx hcm.size
      refine GJ.op hj (by kernel_rfl) hr rfl [100, 101, 102, 103, 104, 105, 106, 107, 108, 109, 110, 111, 112, 113, 114, 115, 116, 2, 3] (by kernel_rfl) (fun K hK => ?_)
      simp only [Act.put, List.foldl_cons, List.foldl_nil, List.setIfInBounds_toArray, List.set_cons_zero, List.set_cons_succ] at hK ⊢
      clear hj hf
      rw [e1] at hK ⊢
      clear e1
      go_simp
      exact hK _ _ (fun k v _ _ h => h.keep (Below.refl _ _)) (fun t ht => SJ.of (.eq (.int .i64 r.id)) rfl rfl) (hcm.trans ((Below.refl _ _).mono hcm.size))
    · have klt := Nat.lt_of_lt_of_le lx hcm.size
      refine GJ.op hj (by kernel_rfl) hr rfl [100, 101, 102, 103, 104, 105, 106, 107, 108, 109, 110, 111, 112, 113, 114, 115, 116, 2, 3] (by kernel_rfl) (fun K hK => ?_)
      simp only [Act.put, List.foldl_cons, List.foldl_nil, List.setIfInBounds_toArray, List.set_cons_zero, List.set_cons_succ] at hK ⊢
      clear hj hf
      go_simp
      exact hK _ _ (fun k v _ _ h => h.keep (Below.refl _ _)) (fun t ht => SJ.of (.eq (.pointer (some ⟨w.heap.size, 4, none⟩))) rfl rfl) (hcm.trans ((Below.refl _ _).mono hcm.size))
    · have e1 : f 102 = .pointer (some ⟨w.heap.size, 4, none⟩) := hf 2 _ _ rfl rfl (up_dep hr (by kernel_rfl))
      have kx := keep_cell hcm x4
      have klt := Nat.lt_of_lt_of_le lx hcm.size
      refine GJ.op hj (by kernel_rfl) hr rfl [100, 101, 102, 103, 104, 105, 106, 107, 108, 109, 110, 111, 112, 113, 114, 115, 116, 2, 3] (by kernel_rfl) (fun K hK => ?_)
      simp only [Act.put, List.foldl_cons, List.foldl_nil, List.setIfInBounds_toArray, List.set_cons_zero, List.set_cons_succ] at hK ⊢
      clear hj hf
      rw [e1] at hK ⊢
      clear e1
      go_simp
      exact hK _ _ (fun k v _ _ h => h.keep (Below.refl _ _)) (fun t ht => SJ.of (.eq (.int .u8 (r.ans : Int))) rfl rfl) (hcm.trans ((Below.refl _ _).mono hcm.size))
    · have e1 : f 103 = .int .u8 (r.ans : Int) := hf 3 _ _ rfl rfl (up_dep hr (by kernel_rfl))
      have ha8 := HA8.out
      refine GJ.op hj (by kernel_rfl) hr rfl [100, 101, 102, 103, 104, 105, 106, 107, 108, 109, 110, 111, 112, 113, 114, 115, 116, 2, 3] (by kernel_rfl) (fun K hK => ?_)
      simp only [Act.put, List.foldl_cons, List.foldl_nil, List.setIfInBounds_toArray, List.set_cons_zero, List.set_cons_succ] at hK ⊢
      clear hj hf
      rw [e1] at hK ⊢
      clear e1
      go_simp
      rw [wrap_in (z := (r.ans : Int)) (by omega) (by omega)]
      exact hK _ _ (fun k v _ _ h => h.keep (Below.refl _ _)) (fun t ht => SJ.of (.eq (.int .i64 (r.ans : Int))) rfl rfl) (hcm.trans ((Below.refl _ _).mono hcm.size))
    · have e1 : f 101 = .int .i64 r.id := hf 1 _ _ rfl rfl (up_dep hr (by kernel_rfl))
      have e2 : f 104 = .int .i64 (r.ans : Int) := hf 4 _ _ rfl rfl (up_dep hr (by kernel_rfl))
      obtain ⟨_, _, hid64, _, _⟩ := HOK.out
      have HOW := Lib.hid (OwnI.two w9 (Nat.zero_le _) hid64 HA64.out)
      clear hid64
      refine GJ.op hj (by kernel_rfl) hr rfl [100, 101, 102, 103, 104, 105, 106, 107, 108, 109, 110, 111, 112, 113, 114, 115, 116, 2, 3] (by kernel_rfl) (fun K hK => ?_)
      simp only [Act.put, List.foldl_cons, List.foldl_nil, List.setIfInBounds_toArray, List.set_cons_zero, List.set_cons_succ] at hK ⊢
      clear hj hf
      rw [e1, e2] at hK ⊢
      clear e1 e2
      go_simp
      exact hK _ _ (fun k v _ _ h => h.keep (held_alloc (Below.refl _ _))) (fun t ht => SJ.of (.own [r.id, (r.ans : Int)]) rfl HOW.out) (hcm.trans ((held_alloc (Below.refl _ _)).mono hcm.size))
    · refine GJ.op hj (by kernel_rfl) hr rfl [100, 101, 102, 103, 104, 105, 106, 107, 108, 109, 110, 111, 112, 113, 114, 115, 116, 2, 3] (by kernel_rfl) (fun K hK => ?_)
      simp only [Act.put, List.foldl_cons, List.foldl_nil, List.setIfInBounds_toArray, List.set_cons_zero, List.set_cons_succ] at hK ⊢
      clear hj hf
      go_simp
      exact hK _ _ (fun k v _ _ h => h.keep (Below.refl _ _)) (fun t ht => SJ.of (.eq (.bool true)) rfl rfl) (hcm.trans ((Below.refl _ _).mono hcm.size))
    · have e1 : f 106 = .bool true := hf 6 _ _ rfl rfl (up_dep hr (by kernel_rfl))
      refine GJ.op hj (by kernel_rfl) hr rfl [100, 101, 102, 103, 104, 105, 106, 107, 108, 109, 110, 111, 112, 113, 114, 115, 116, 2, 3] (by kernel_rfl) (fun K hK => ?_)
      simp only [Act.put, List.foldl_cons, List.foldl_nil, List.setIfInBounds_toArray, List.set_cons_zero, List.set_cons_succ] at hK ⊢
      clear hj hf
      rw [e1] at hK ⊢
      clear e1
      go_simp
      exact hK _ _ (fun k v _ _ h => h.keep (Below.refl _ _)) (fun t ht => SJ.of (.eq (.bool true)) rfl rfl) (hcm.trans ((Below.refl _ _).mono hcm.size))
    · have gg := hj.got 7 _ _ rfl rfl (up_dep hr (by kernel_rfl))
      have klt := Nat.lt_of_lt_of_le lx hcm.size
      refine GJ.yes hj (by kernel_rfl) hr rfl [100, 101, 102, 103, 104, 105, 106, 107, 108, 109, 110, 111, 112, 113, 114, 115, 116, 2, 3] (by kernel_rfl) rfl (j := 7) rfl rfl (c := true) gg rfl (fun K hK => ?_)
      clear gg
      simp only [Act.put, List.foldl_cons, List.foldl_nil, List.setIfInBounds_toArray, List.set_cons_zero, List.set_cons_succ] at hK ⊢
      clear hj hf
      go_simp
      exact hK _ _ (fun k v _ _ h => h.keep (Below.refl _ _)) (fun t ht => SJ.of (.eq (.pointer (some ⟨w.heap.size, 1, none⟩))) rfl rfl) (hcm.trans ((Below.refl _ _).mono hcm.size))
    · have gg := hj.got 7 _ _ rfl rfl (up_dep hr (by kernel_rfl))
      have e1 : f 108 = .pointer (some ⟨w.heap.size, 1, none⟩) := hf 8 _ _ rfl rfl (up_dep hr (by kernel_rfl))
      have kx := keep_cell hcm x1
      have klt := Nat.lt_of_lt_of_le lx hcm.size
      refine GJ.yes hj (by kernel_rfl) hr rfl [100, 101, 102, 103, 104, 105, 106, 107, 108, 109, 110, 111, 112, 113, 114, 115, 116, 2, 3] (by kernel_rfl) rfl (j := 7) rfl rfl (c := true) gg rfl (fun K hK => ?_)
      clear gg
      simp only [Act.put, List.foldl_cons, List.foldl_nil, List.setIfInBounds_toArray, List.set_cons_zero, List.set_cons_succ] at hK ⊢
      clear hj hf
      rw [e1] at hK ⊢
      clear e1
      go_simp
      exact hK _ _ (fun k v _ _ h => h.keep (Below.refl _ _)) (fun t ht => SJ.of (.eq (.int .i64 r.place)) rfl rfl) (hcm.trans ((Below.refl _ _).mono hcm.size))
    · have gg := hj.got 7 _ _ rfl rfl (up_dep hr (by kernel_rfl))
      have e1 : f 109 = .int .i64 r.place := hf 9 _ _ rfl rfl (up_dep hr (by kernel_rfl))
      refine GJ.yes hj (by kernel_rfl) hr rfl [100, 101, 102, 103, 104, 105, 106, 107, 108, 109, 110, 111, 112, 113, 114, 115, 116, 2, 3] (by kernel_rfl) rfl (j := 7) rfl rfl (c := true) gg rfl (fun K hK => ?_)
      clear gg
      simp only [Act.put, List.foldl_cons, List.foldl_nil, List.setIfInBounds_toArray, List.set_cons_zero, List.set_cons_succ] at hK ⊢
      clear hj hf
      rw [e1] at hK ⊢
      clear e1
      go_simp
      exact hK _ _ (fun k v _ _ h => h.keep (Below.refl _ _)) (fun t ht => SJ.of (.eq (.bool true)) rfl rfl) (hcm.trans ((Below.refl _ _).mono hcm.size))
    · have e1 : f 107 = .bool true := hf 7 _ _ rfl rfl (up_dep hr (by kernel_rfl))
      have e2 : f 110 = .bool true := hf 10 _ _ rfl rfl (up_dep hr (by kernel_rfl))
      refine GJ.op hj (by kernel_rfl) hr rfl [100, 101, 102, 103, 104, 105, 106, 107, 108, 109, 110, 111, 112, 113, 114, 115, 116, 2, 3] (by kernel_rfl) (fun K hK => ?_)
      simp only [Act.put, List.foldl_cons, List.foldl_nil, List.setIfInBounds_toArray, List.set_cons_zero, List.set_cons_succ] at hK ⊢
      clear hj hf
      rw [e1, e2] at hK ⊢
      clear e1 e2
      go_simp
      exact hK _ _ (fun k v _ _ h => h.keep (Below.refl _ _)) (fun t ht => SJ.of (.eq (.bool true)) rfl rfl) (hcm.trans ((Below.refl _ _).mono hcm.size))
    · have e1 : f 111 = .bool true := hf 11 _ _ rfl rfl (up_dep hr (by kernel_rfl))
      refine GJ.op hj (by kernel_rfl) hr rfl [100, 101, 102, 103, 104, 105, 106, 107, 108, 109, 110, 111, 112, 113, 114, 115, 116, 2, 3] (by kernel_rfl) (fun K hK => ?_)
      simp only [Act.put, List.foldl_cons, List.foldl_nil, List.setIfInBounds_toArray, List.set_cons_zero, List.set_cons_succ] at hK ⊢
      clear hj hf
      rw [e1] at hK ⊢
      clear e1
      go_simp
      exact hK _ _ (fun k v _ _ h => h.keep (Below.refl _ _)) (fun t ht => SJ.of (.eq (.bool true)) rfl rfl) (hcm.trans ((Below.refl _ _).mono hcm.size))
    · have gg := hj.got 12 _ _ rfl rfl (up_dep hr (by kernel_rfl))
      have klt := Nat.lt_of_lt_of_le lx hcm.size
      refine GJ.yes hj (by kernel_rfl) hr rfl [100, 101, 102, 103, 104, 105, 106, 107, 108, 109, 110, 111, 112, 113, 114, 115, 116, 2, 3] (by kernel_rfl) rfl (j := 12) rfl rfl (c := true) gg rfl (fun K hK => ?_)
      clear gg
      simp only [Act.put, List.foldl_cons, List.foldl_nil, List.setIfInBounds_toArray, List.set_cons_zero, List.set_cons_succ] at hK ⊢
      clear hj hf
      go_simp
      exact hK _ _ (fun k v _ _ h => h.keep (Below.refl _ _)) (fun t ht => SJ.of (.eq (.pointer (some ⟨w.heap.size, 3, none⟩))) rfl rfl) (hcm.trans ((Below.refl _ _).mono hcm.size))
    · have gg := hj.got 12 _ _ rfl rfl (up_dep hr (by kernel_rfl))
      have e1 : f 113 = .pointer (some ⟨w.heap.size, 3, none⟩) := hf 13 _ _ rfl rfl (up_dep hr (by kernel_rfl))
      have kx := keep_cell hcm x3
      have klt := Nat.lt_of_lt_of_le lx hcm.size
      refine GJ.yes hj (by kernel_rfl) hr rfl [100, 101, 102, 103, 104, 105, 106, 107, 108, 109, 110, 111, 112, 113, 114, 115, 116, 2, 3] (by kernel_rfl) rfl (j := 12) rfl rfl (c := true) gg rfl (fun K hK => ?_)
      clear gg
      simp only [Act.put, List.foldl_cons, List.foldl_nil, List.setIfInBounds_toArray, List.set_cons_zero, List.set_cons_succ] at hK ⊢
      clear hj hf
      rw [e1] at hK ⊢
      clear e1
      go_simp
      exact hK _ _ (fun k v _ _ h => h.keep (Below.refl _ _)) (fun t ht => SJ.of (.eq (.int .i64 r.lease)) rfl rfl) (hcm.trans ((Below.refl _ _).mono hcm.size))
    · have gg := hj.got 12 _ _ rfl rfl (up_dep hr (by kernel_rfl))
      have e1 : f 114 = .int .i64 r.lease := hf 14 _ _ rfl rfl (up_dep hr (by kernel_rfl))
      refine GJ.yes hj (by kernel_rfl) hr rfl [100, 101, 102, 103, 104, 105, 106, 107, 108, 109, 110, 111, 112, 113, 114, 115, 116, 2, 3] (by kernel_rfl) rfl (j := 12) rfl rfl (c := true) gg rfl (fun K hK => ?_)
      clear gg
      simp only [Act.put, List.foldl_cons, List.foldl_nil, List.setIfInBounds_toArray, List.set_cons_zero, List.set_cons_succ] at hK ⊢
      clear hj hf
      rw [e1] at hK ⊢
      clear e1
      go_simp
      exact hK _ _ (fun k v _ _ h => h.keep (Below.refl _ _)) (fun t ht => SJ.of (.eq (.bool zl)) rfl rfl) (hcm.trans ((Below.refl _ _).mono hcm.size))
    · have e1 : f 112 = .bool true := hf 12 _ _ rfl rfl (up_dep hr (by kernel_rfl))
      have e2 : f 115 = .bool zl := hf 15 _ _ rfl rfl (up_dep hr (by kernel_rfl))
      refine GJ.op hj (by kernel_rfl) hr rfl [100, 101, 102, 103, 104, 105, 106, 107, 108, 109, 110, 111, 112, 113, 114, 115, 116, 2, 3] (by kernel_rfl) (fun K hK => ?_)
      simp only [Act.put, List.foldl_cons, List.foldl_nil, List.setIfInBounds_toArray, List.set_cons_zero, List.set_cons_succ] at hK ⊢
      clear hj hf
      rw [e1, e2] at hK ⊢
      clear e1 e2
      go_simp
      exact hK _ _ (fun k v _ _ h => h.keep (Below.refl _ _)) (fun t ht => SJ.of (.eq (.bool zl)) rfl rfl) (hcm.trans ((Below.refl _ _).mono hcm.size))
    · have HOW : OwnI w9 0 (f 105) [r.id, (r.ans : Int)] := hf 5 _ _ rfl rfl (up_dep hr (by kernel_rfl))
      refine GJ.op hj (by kernel_rfl) hr rfl [100, 101, 102, 103, 104, 105, 106, 107, 108, 109, 110, 111, 112, 113, 114, 115, 116, 2, 3] (by kernel_rfl) (fun K hK => ?_)
      simp only [Act.put, List.foldl_cons, List.foldl_nil, List.setIfInBounds_toArray, List.set_cons_zero, List.set_cons_succ] at hK ⊢
      clear hj hf
      generalize f 105 = u9 at HOW hK ⊢
      have HOW := Lib.hid HOW
      go_simp
      exact hK _ _ (fun k v _ _ h => h.keep (Below.refl _ _)) (fun t ht => SJ.of (.own [r.id, (r.ans : Int)]) rfl HOW.out) hcm
    · have e1 : f 116 = .bool zl := hf 16 _ _ rfl rfl (up_dep hr (by kernel_rfl))
      refine GJ.op hj (by kernel_rfl) hr rfl [100, 101, 102, 103, 104, 105, 106, 107, 108, 109, 110, 111, 112, 113, 114, 115, 116, 2, 3] (by kernel_rfl) (fun K hK => ?_)
      simp only [Act.put, List.foldl_cons, List.foldl_nil, List.setIfInBounds_toArray, List.set_cons_zero, List.set_cons_succ] at hK ⊢
      clear hj hf
      rw [e1] at hK ⊢
      clear e1
      go_simp
      exact hK _ _ (fun k v _ _ h => h.keep (Below.refl _ _)) (fun t ht => SJ.of (.eq (.bool zl)) rfl rfl) (hcm.trans ((Below.refl _ _).mono hcm.size))
  · intro listed a_ w10 hr hj
    have hu : ∀ k, k < 19 → up listed k := fun k hk => all_up (by kernel_rfl) hj.lsize hr k hk
    obtain ⟨f, rfl, hcm, hf⟩ := hj.opened [100, 101, 102, 103, 104, 105, 106, 107, 108, 109, 110, 111, 112, 113, 114, 115, 116, 2, 3] (by kernel_rfl)
    replace hcm : Below W0.heap.size W0 w10 := hcm
    have HLast : f 3 = .bool zl := hf 18 _ _ rfl rfl (hu 18 (by omega))
    have HOW : OwnI w10 0 (f 2) [r.id, (r.ans : Int)] := hf 17 _ _ rfl rfl (hu 17 (by omega))
    have HBR := Lib.hid hcm
    clear hf hj hr hu hcm
    simp only [List.foldl_cons, List.foldl_nil, List.setIfInBounds_toArray, List.set_cons_zero, List.set_cons_succ]
    rw [HLast]
    clear HLast
    generalize f 100 = g100
    generalize f 101 = g101
    generalize f 102 = g102
    generalize f 103 = g103
    generalize f 104 = g104
    generalize f 105 = g105
    generalize f 106 = g106
    generalize f 107 = g107
    generalize f 108 = g108
    generalize f 109 = g109
    generalize f 110 = g110
    generalize f 111 = g111
    generalize f 112 = g112
    generalize f 113 = g113
    generalize f 114 = g114
    generalize f 115 = g115
    generalize f 116 = g116
    generalize f 2 = g2 at HOW ⊢
    clear f
    go_wp2_with fail
    go_ret2
    exact ⟨_, _, rfl, HP.out, fun hb => by rw [HN.out]; exact HOW.sl, HB.out.trans (HBR.out.mono HB.out.size)⟩
set_option maxRecDepth 100000 in
set_option maxHeartbeats 2000000 in
theorem rNumbers_x (w : World) (v : Value) (r : Rec) (h : IsR w v r) (hk1 : r.kind ≠ 1) (hk2 : r.kind ≠ 2) (hk3 : r.kind ≠ 3) : Calls Tryz.prog 30 #[v] w (RetN w r) := by
  obtain ⟨hok, vs, va, rfl, h1, h2⟩ := h
  obtain ⟨pS, cS, rfl, _, _, _⟩ := h1.2.shape
  obtain ⟨pL, cL, rfl⟩ : ∃ pL cL, va = .slice pL r.after.length cL := by
    obtain ⟨_, k2, _⟩ := h2
    obtain ⟨a, b, e', _⟩ := k2.shape
    exact ⟨a, b, e'⟩
  obtain ⟨W0, hW⟩ : ∃ W0, W0 = w.alloc (.cells #[.int .u8 (r.kind : Int), .int .i64 r.place, .int .i64 r.id, .int .i64 r.lease, .int .u8 (r.ans : Int), .slice pS r.steps.length cS, .slice pL r.after.length cL] 29) := ⟨_, rfl⟩
  have hb0 : Below w.heap.size w W0 := by rw [hW]; exact held_alloc (Below.refl _ _)
  have hbx : Box W0 w.heap.size #[.int .u8 (r.kind : Int), .int .i64 r.place, .int .i64 r.id, .int .i64 r.lease, .int .u8 (r.ans : Int), .slice pS r.steps.length cS, .slice pL r.after.length cL] 29 := by rw [hW]; exact Box.new _ _ _
  have HOK := Lib.hid hok
  have H1 := Lib.hid (h1.after hb0)
  have H2 := Lib.hid (h2.after hb0)
  have HB := Lib.hid hb0
  have BX := Lib.hid hbx
  have x0 : W0.cell? ⟨w.heap.size, 0, none⟩ = some (.int .u8 (r.kind : Int)) := hbx.cell 0
  have x1 : W0.cell? ⟨w.heap.size, 1, none⟩ = some (.int .i64 r.place) := hbx.cell 1
  have x2 : W0.cell? ⟨w.heap.size, 2, none⟩ = some (.int .i64 r.id) := hbx.cell 2
  have x3 : W0.cell? ⟨w.heap.size, 3, none⟩ = some (.int .i64 r.lease) := hbx.cell 3
  have x4 : W0.cell? ⟨w.heap.size, 4, none⟩ = some (.int .u8 (r.ans : Int)) := hbx.cell 4
  have x5 : W0.cell? ⟨w.heap.size, 5, none⟩ = some (.slice pS r.steps.length cS) := hbx.cell 5
  have x6 : W0.cell? ⟨w.heap.size, 6, none⟩ = some (.slice pL r.after.length cL) := hbx.cell 6
  have lx := hbx.lt
  clear hok h1 h2 hb0 hbx
  show Calls _ _ #[.agg #[.int .u8 (r.kind : Int), .int .i64 r.place, .int .i64 r.id, .int .i64 r.lease, .int .u8 (r.ans : Int), .slice pS r.steps.length cS, .slice pL r.after.length cL]] w _
  have k1 : ((r.kind : Int) == 1) = false := by rw [beq_eq_false_iff_ne]; omega
  have k2 : ((r.kind : Int) == 2) = false := by rw [beq_eq_false_iff_ne]; omega
  have k3 : ((r.kind : Int) == 3) = false := by rw [beq_eq_false_iff_ne]; omega
  by_cases hs : r.steps = []
  rotate_left
  · have hs0 : 0 < r.steps.length := List.length_pos_iff.2 hs
    have b1 : ((r.steps.length : Int) == 0) = false := by rw [beq_eq_false_iff_ne]; omega
    have HN := Lib.hid (nums_x hk1 hk2 hk3)
    have HP : Hid ((1 ≤ r.kind ∧ r.kind ≤ 5) → false = decide (Bare r)) := fun _ => (decide_eq_false (fun e => by rw [bare_x hk1 hk2 hk3] at e; exact hs e.2.1)).symm
    clear hs hs0 hk1 hk2 hk3
    go_enter Tryz.func30, Tryz.ntmps30
    go_upto_region 1 with fail
    rw [← hW]
    clear hW
    go_upto_region 16 with fail
    go_quiet (fail)
    go_wp2_with fail
    go_ret2
    exact ⟨_, _, rfl, HP.out, fun hb => by rw [HN.out]; exact SlI.nil _, HB.out.trans (below_drewN _ _ _)⟩
  have b1 : ((r.steps.length : Int) == 0) = true := by rw [hs]; rfl
  by_cases ha : r.after = []
  rotate_left
  · have ha0 : 0 < r.after.length := List.length_pos_iff.2 ha
    have b2 : ((r.after.length : Int) == 0) = false := by rw [beq_eq_false_iff_ne]; omega
    have HN := Lib.hid (nums_x hk1 hk2 hk3)
    have HP : Hid ((1 ≤ r.kind ∧ r.kind ≤ 5) → false = decide (Bare r)) := fun _ => (decide_eq_false (fun e => by rw [bare_x hk1 hk2 hk3] at e; exact ha e.2.2.1)).symm
    clear hs ha ha0 hk1 hk2 hk3
    go_enter Tryz.func30, Tryz.ntmps30
    go_upto_region 1 with fail
    rw [← hW]
    clear hW
    go_upto_region 16 with fail
    go_quiet (fail)
    go_wp2_with fail
    go_ret2
    exact ⟨_, _, rfl, HP.out, fun hb => by rw [HN.out]; exact SlI.nil _, HB.out.trans (below_drewN _ _ _)⟩
  have b2 : ((r.after.length : Int) == 0) = true := by rw [ha]; rfl
  have HN := Lib.hid (nums_x hk1 hk2 hk3)
  by_cases hp : r.place = 0
  rotate_left
  · have HP : Hid ((1 ≤ r.kind ∧ r.kind ≤ 5) → false = decide (Bare r)) := fun _ => (decide_eq_false (fun e => by rw [bare_x hk1 hk2 hk3] at e; exact hp e.2.2.2.1)).symm
    have p1 : (r.place == 0) = false := by rw [beq_eq_false_iff_ne]; omega
    clear hs ha hk1 hk2 hk3 hp
    go_enter Tryz.func30, Tryz.ntmps30
    go_upto_region 1 with fail
    rw [← hW]
    clear hW
    go_upto_region 16 with fail
    go_quiet (fail)
    go_wp2_with fail
    go_ret2
    exact ⟨_, _, rfl, HP.out, fun hb => by rw [HN.out]; exact SlI.nil _, HB.out.trans (below_drewN _ _ _)⟩
  by_cases hi : r.id = 0
  rotate_left
  · have HP : Hid ((1 ≤ r.kind ∧ r.kind ≤ 5) → false = decide (Bare r)) := fun _ => (decide_eq_false (fun e => by rw [bare_x hk1 hk2 hk3] at e; exact hi e.2.2.2.2.1)).symm
    have i1 : (r.id == 0) = false := by rw [beq_eq_false_iff_ne]; omega
    have p1 : (r.place == 0) = true := by rw [beq_iff_eq]; omega
    clear hs ha hk1 hk2 hk3 hp hi
    go_enter Tryz.func30, Tryz.ntmps30
    go_upto_region 1 with fail
    rw [← hW]
    clear hW
    go_upto_region 16 with fail
    go_quiet (fail)
    go_wp2_with fail
    go_ret2
    exact ⟨_, _, rfl, HP.out, fun hb => by rw [HN.out]; exact SlI.nil _, HB.out.trans (below_drewN _ _ _)⟩
  by_cases hl : r.lease = 0
  rotate_left
  · have HP : Hid ((1 ≤ r.kind ∧ r.kind ≤ 5) → false = decide (Bare r)) := fun _ => (decide_eq_false (fun e => by rw [bare_x hk1 hk2 hk3] at e; exact hl e.2.2.2.2.2.1)).symm
    have l1 : (r.lease == 0) = false := by rw [beq_eq_false_iff_ne]; omega
    have p1 : (r.place == 0) = true := by rw [beq_iff_eq]; omega
    have i1 : (r.id == 0) = true := by rw [beq_iff_eq]; omega
    clear hs ha hk1 hk2 hk3 hp hi hl
    go_enter Tryz.func30, Tryz.ntmps30
    go_upto_region 1 with fail
    rw [← hW]
    clear hW
    go_upto_region 16 with fail
    go_quiet (fail)
    go_wp2_with fail
    go_ret2
    exact ⟨_, _, rfl, HP.out, fun hb => by rw [HN.out]; exact SlI.nil _, HB.out.trans (below_drewN _ _ _)⟩
  obtain ⟨za, hza⟩ : ∃ z, ((r.ans : Int) == 0) = z := ⟨_, rfl⟩
  have HP : Hid ((1 ≤ r.kind ∧ r.kind ≤ 5) → za = decide (Bare r)) := fun h15 => by rw [← hza, Bool.eq_iff_iff, beq_iff_eq, decide_eq_true_iff, bare_x hk1 hk2 hk3]; simp [hs, ha, hp, hi, hl]; omega
  have p1 : (r.place == 0) = true := by rw [beq_iff_eq]; omega
  have i1 : (r.id == 0) = true := by rw [beq_iff_eq]; omega
  have l1 : (r.lease == 0) = true := by rw [beq_iff_eq]; omega
  clear hs ha hk1 hk2 hk3 hp hi hl
  go_enter Tryz.func30, Tryz.ntmps30
  go_upto_region 1 with fail
  rw [← hW]
  clear hW
  go_upto_region 16 with fail
  go_quiet (fail)
  go_wp2_with fail
  go_ret2
  exact ⟨_, _, rfl, HP.out, fun hb => by rw [HN.out]; exact SlI.nil _, HB.out.trans (below_drewN _ _ _)⟩
end Go.Proofs.YtpaoeeamlinaaaaGreatDoor
