/- Walks of package syntax: scopes.
   Walks of package syntax: the readers that are straight lines. -/
import Derived.Test.YtganlldidjbpiaaGreatDoorK07
set_option linter.unusedVariables false
namespace Go.Proofs.YtganlldidjbpiaaGreatDoor
open Go.RowKit Go.Shelf

theorem scopeN_lt (s : List UInt8) : scopeN s < 256 := by
  unfold scopeN
  repeat' split
  all_goals omega
theorem scope_pos {t : Tok} (h : scopedT t = true) : 1 ≤ scopeN t.text := by
  unfold scopedT at h
  rw [bne_iff_ne] at h
  omega
theorem scope_ix {x : List UInt8} (h : scopesL.contains x = true) : ∃ i, i = scopeN x - 1 ∧ i < 5 ∧ idxZ scopesL x = (i : Int) := by
  rw [List.contains_iff_mem] at h
  unfold scopesL at h
  simp only [List.mem_cons, List.not_mem_nil, or_false] at h
  rcases h with rfl | rfl | rfl | rfl | rfl
  · exact ⟨0, by decide, by decide, by decide⟩
  · exact ⟨1, by decide, by decide, by decide⟩
  · exact ⟨2, by decide, by decide, by decide⟩
  · exact ⟨3, by decide, by decide, by decide⟩
  · exact ⟨4, by decide, by decide, by decide⟩
theorem scope_idx {t : Tok} (h : scopedT t = true) : ∃ i, i = scopeN t.text - 1 ∧ i < 5 ∧ idxZ scopesL t.text = (i : Int) := by
  unfold scopedT at h
  rw [← scope_yes] at h
  exact scope_ix h
set_option maxRecDepth 100000 in
set_option maxHeartbeats 4000000 in
theorem scope_c (N : Nat) (w : World) (p : Nat) (ts : List Tok) (en : Int) (h : PS w p ts en) (hN : N ≤ w.heap.size) (hNp : N ≤ p) (he : Wds N w) : Calls Tryz.prog 112 #[.pointer (some ⟨p, 0, none⟩)] w (Rd (fun b => b = p) p en w (fun d v _ => v = .int .u8 ((d : Nat) : Int) ∧ d < 256) (scopeP ts)) := by
  obtain ⟨x, hx⟩ : ∃ x, nextP scopedT ts = x := ⟨_, rfl⟩
  obtain ⟨y, hy⟩ : ∃ y, scopeP ts = y := ⟨_, rfl⟩
  rw [hy]
  have HX := Lib.hid hx
  have HY : Hid ((andP x fun t r => .ok (scopeN t.text, r)) = y) := by show _ = _; rw [← hx, ← hy]; rfl
  have HP := Lib.hid h
  have HE := Lib.hid he
  have hpN : ∀ b, b = p → N ≤ b := fun b e => e ▸ hNp
  have hd : ∀ b, b < N → b < w.heap.size → ¬ b = p := fun b hb _ e => by omega
  obtain ⟨vs, g0, gs, hs⟩ := he.2.1
  obtain ⟨vd, g1, gd, hdm⟩ := he.2.2
  have HS := Lib.hid hs
  have hp0 : ¬ 0 = p := by omega
  have hp1 : ¬ 1 = p := by omega
  obtain ⟨bd, od, cd, rfl, hd5, hdc, hdN, hdl, hdat⟩ := hdm.at_ (by omega)
  have hpd : ¬ bd = p := by omega
  have HD : Hid (∀ i, i < 5 → w.cell? ⟨bd, od + i, none⟩ = some (.int .u8 ((i + 1 : Nat) : Int))) := fun i hi => by have := hdat i hi 0 (by omega); simpa using this
  clear hx hy h he hs hdm hdat
  go_enter Tryz.func112, Tryz.ntmps112
  go_upto_region 1 with fail
  refine wp_region_gj (J := GJ _ (SKS (S := (fun b => b = p)) (fun κ => match κ with | 0 => KS.eq (.slice (some ⟨bd, od, none⟩) 5 cd) | 1 => KS.eq (vs) | 2 => KS.eq (.pointer (some ⟨p, 0, none⟩)) | 3 => KS.pure (fun v => ∃ t r, x = .ok (t, r) ∧ v = tokV t ∧ TokOk t) | 4 => KS.pure (fun v => ∃ t r, x = .ok (t, r) ∧ v = .string (bs t.text) ∧ TokOk t) | 5 => KS.pure (fun v => ∃ t r, x = .ok (t, r) ∧ v = .int .i64 (idxZ scopesL t.text)) | 6 => KS.pure (fun v => ∃ t r, x = .ok (t, r) ∧ v = .pointer (some ⟨bd, od + (scopeN t.text - 1), none⟩) ∧ scopedT t = true) | 7 => KS.pure (fun v => ∃ t r, x = .ok (t, r) ∧ v = .int .u8 ((scopeN t.text : Nat) : Int)) | 8 => KS.pure (fun v => ∃ t r, x = .ok (t, r) ∧ v = .int .u8 ((scopeN t.text : Nat) : Int)) | _ => KS.any)) (CP (fun b => b = p) w p en 3 ts x) _) (by kernel_rfl) ?_ ?_ (GJ.start (CP.start HP.out))
  · intro listed a w9 i hr hj
    obtain ⟨hi12, hun, _, _, _⟩ := ready_mem hr
    have h12 : i ∈ List.range 9 := List.mem_range.2 hi12
    simp only [List.range, List.range.loop, List.mem_cons, List.not_mem_nil, or_false] at h12
    obtain ⟨f, rfl, hcm, hf⟩ := hj.opened [3, 4, 5, 6, 7, 8, 9, 10, 2] (by kernel_rfl)
    replace hcm : CP (fun b => b = p) w p en 3 ts x listed f w9 := hcm
    rcases h12 with rfl | rfl | rfl | rfl | rfl | rfl | rfl | rfl | rfl
    · have kc := hcm.1.cell g1 hp1
      refine GJ.op hj (by kernel_rfl) hr rfl [3, 4, 5, 6, 7, 8, 9, 10, 2] (by kernel_rfl) (fun K hK => ?_)
      simp only [Act.put, List.foldl_cons, List.foldl_nil, List.setIfInBounds_toArray, List.set_cons_zero, List.set_cons_succ] at hK ⊢
      clear hj hf
      go_simp
      exact hK _ _ (fun k v _ _ h => h) (fun t ht => rfl) (hcm.keep (by decide) (Below.refl _ _))
    · have kc := hcm.1.cell g0 hp0
      refine GJ.op hj (by kernel_rfl) hr rfl [3, 4, 5, 6, 7, 8, 9, 10, 2] (by kernel_rfl) (fun K hK => ?_)
      simp only [Act.put, List.foldl_cons, List.foldl_nil, List.setIfInBounds_toArray, List.set_cons_zero, List.set_cons_succ] at hK ⊢
      clear hj hf
      go_simp
      exact hK _ _ (fun k v _ _ h => h) (fun t ht => rfl) (hcm.keep (by decide) (Below.refl _ _))
    · refine GJ.op hj (by kernel_rfl) hr rfl [3, 4, 5, 6, 7, 8, 9, 10, 2] (by kernel_rfl) (fun K hK => ?_)
      simp only [Act.put, List.foldl_cons, List.foldl_nil, List.setIfInBounds_toArray, List.set_cons_zero, List.set_cons_succ] at hK ⊢
      clear hj hf
      go_simp
      exact hK _ _ (fun k v _ _ h => h) (fun t ht => rfl) (hcm.keep (by decide) (Below.refl _ _))
    · have e1 : f 5 = .pointer (some ⟨p, 0, none⟩) := hf 2 _ _ rfl rfl (up_dep hr (by kernel_rfl))
      have hnu : ¬ up listed 3 := not_up hun
      have hls := hj.lsize
      refine GJ.op hj (by kernel_rfl) hr rfl [3, 4, 5, 6, 7, 8, 9, 10, 2] (by kernel_rfl) (fun K hK => ?_)
      simp only [Act.put, List.foldl_cons, List.foldl_nil, List.setIfInBounds_toArray, List.set_cons_zero, List.set_cons_succ] at hK ⊢
      clear hj hf
      rw [e1] at hK ⊢
      clear e1
      go_simp
      refine (next_c _ p ts en _ scopedT (hcm.2.1 hnu) (cls_scoped (Nat.le_trans hN hcm.1.size) (HE.out.fx hcm.1 hpN))).mono ?_
      rw [HX.out]
      rintro e w10 ⟨hf10, hr10⟩
      rcases hx10 : x with r | ⟨t, r⟩
      · rw [hx10] at hr10
        have hr10 : e = _ := hr10
        subst hr10
        exact ⟨rfl, hcm.1.trans hf10, by rw [← HY.out, hx10]; rfl⟩
      · rw [hx10] at hr10
        obtain ⟨hp10, v, rfl, rfl, ht10⟩ := hr10
        exact hK _ _ (fun k v _ _ h => KS.st _ _ _ _ hf10 h) (fun _ _ => ⟨t, r, hx10, rfl, ht10⟩) (hcm.put (by rw [hls]; decide) hf10 hx10 hp10)
    · obtain ⟨t, r, hx9, e3, ht9⟩ : ∃ t r, x = .ok (t, r) ∧ f 6 = tokV t ∧ TokOk t := hf 3 _ _ rfl rfl (up_dep hr (by kernel_rfl))
      refine GJ.op hj (by kernel_rfl) hr rfl [3, 4, 5, 6, 7, 8, 9, 10, 2] (by kernel_rfl) (fun K hK => ?_)
      simp only [Act.put, List.foldl_cons, List.foldl_nil, List.setIfInBounds_toArray, List.set_cons_zero, List.set_cons_succ] at hK ⊢
      clear hj hf
      rw [e3] at hK ⊢
      clear e3
      unfold tokV at hK ⊢
      go_simp
      exact hK _ _ (fun k v _ _ h => h) (fun _ _ => ⟨t, r, hx9, rfl, ht9⟩) (hcm.keep (by decide) (Below.refl _ _))
    · obtain ⟨t, r, hx9, e3, ht9⟩ : ∃ t r, x = .ok (t, r) ∧ f 7 = .string (bs t.text) ∧ TokOk t := hf 4 _ _ rfl rfl (up_dep hr (by kernel_rfl))
      have e1 : f 4 = vs := hf 1 _ _ rfl rfl (up_dep hr (by kernel_rfl))
      refine GJ.op hj (by kernel_rfl) hr rfl [3, 4, 5, 6, 7, 8, 9, 10, 2] (by kernel_rfl) (fun K hK => ?_)
      simp only [Act.put, List.foldl_cons, List.foldl_nil, List.setIfInBounds_toArray, List.set_cons_zero, List.set_cons_succ] at hK ⊢
      clear hj hf
      rw [e1] at hK ⊢
      clear e1
      rw [e3] at hK ⊢
      clear e3
      go_simp
      refine (indexS_c _ _ _ _ t.text (HS.out.fx hcm.1 hd)).mono ?_
      rintro e w10 ⟨rfl, hb10⟩
      exact hK _ _ (fun k v _ _ h => KS.st _ _ _ _ (Fx.of_below hb10) h) (fun _ _ => ⟨t, r, hx9, rfl⟩) (hcm.keep (by decide) hb10)
    · obtain ⟨t, r, hx9, e3⟩ : ∃ t r, x = .ok (t, r) ∧ f 8 = .int .i64 (idxZ scopesL t.text) := hf 5 _ _ rfl rfl (up_dep hr (by kernel_rfl))
      have e1 : f 3 = .slice (some ⟨bd, od, none⟩) 5 cd := hf 0 _ _ rfl rfl (up_dep hr (by kernel_rfl))
      refine GJ.op hj (by kernel_rfl) hr rfl [3, 4, 5, 6, 7, 8, 9, 10, 2] (by kernel_rfl) (fun K hK => ?_)
      simp only [Act.put, List.foldl_cons, List.foldl_nil, List.setIfInBounds_toArray, List.set_cons_zero, List.set_cons_succ] at hK ⊢
      clear hj hf
      rw [e1] at hK ⊢
      clear e1
      have hst := nextP_len (HX.out.trans hx9)
      obtain ⟨i0, hi0, hi5, hz⟩ := scope_idx hst.2
      rw [e3, hz] at hK ⊢
      have HI := Lib.hid hi0
      clear e3 hi0
      have q5 : (i0 : Int) < 5 := by omega
      have q0 : (0 : Int) ≤ (i0 : Int) := by omega
      go_simp
      exact hK _ _ (fun k v _ _ h => h) (fun _ _ => ⟨t, r, hx9, by rw [HI.out], hst.2⟩) (hcm.keep (by decide) (Below.refl _ _))
    · obtain ⟨t, r, hx9, e3, hst⟩ : ∃ t r, x = .ok (t, r) ∧ f 9 = .pointer (some ⟨bd, od + (scopeN t.text - 1), none⟩) ∧ scopedT t = true := hf 6 _ _ rfl rfl (up_dep hr (by kernel_rfl))
      refine GJ.op hj (by kernel_rfl) hr rfl [3, 4, 5, 6, 7, 8, 9, 10, 2] (by kernel_rfl) (fun K hK => ?_)
      simp only [Act.put, List.foldl_cons, List.foldl_nil, List.setIfInBounds_toArray, List.set_cons_zero, List.set_cons_succ] at hK ⊢
      clear hj hf
      rw [e3] at hK ⊢
      clear e3
      obtain ⟨i0, hi0, hi5, hz⟩ := scope_idx hst
      have HSC : Hid (scopeN t.text = i0 + 1) := by have := scope_pos hst; show _ = _; omega
      rw [← hi0] at hK ⊢
      clear hi0
      have kc := hcm.1.cell (HD.out i0 hi5) hpd
      have klt := World.block_lt_of_cell? _ _ kc
      simp only at klt
      go_simp
      exact hK _ _ (fun k v _ _ h => h) (fun _ _ => ⟨t, r, hx9, by rw [HSC.out]; simp⟩) (hcm.keep (by decide) (Below.refl _ _))
    · obtain ⟨t, r, hx9, e3⟩ : ∃ t r, x = .ok (t, r) ∧ f 10 = .int .u8 ((scopeN t.text : Nat) : Int) := hf 7 _ _ rfl rfl (up_dep hr (by kernel_rfl))
      refine GJ.op hj (by kernel_rfl) hr rfl [3, 4, 5, 6, 7, 8, 9, 10, 2] (by kernel_rfl) (fun K hK => ?_)
      simp only [Act.put, List.foldl_cons, List.foldl_nil, List.setIfInBounds_toArray, List.set_cons_zero, List.set_cons_succ] at hK ⊢
      clear hj hf
      rw [e3] at hK ⊢
      clear e3
      go_simp
      exact hK _ _ (fun k v _ _ h => h) (fun _ _ => ⟨t, r, hx9, rfl⟩) (hcm.keep (by decide) (Below.refl _ _))
  · intro listed a w10 hr hj
    have hu : ∀ k, k < 9 → up listed k := fun k hk => all_up (by kernel_rfl) hj.lsize hr k hk
    obtain ⟨f, rfl, hcm, hf⟩ := hj.opened [3, 4, 5, 6, 7, 8, 9, 10, 2] (by kernel_rfl)
    replace hcm : CP (fun b => b = p) w p en 3 ts x listed f w10 := hcm
    obtain ⟨t, r, hx9, e3⟩ : ∃ t r, x = .ok (t, r) ∧ f 2 = .int .u8 ((scopeN t.text : Nat) : Int) := hf 8 _ _ rfl rfl (hu 8 (by omega))
    obtain ⟨a', r', hx8, hp⟩ := hcm.2.2 (hu 3 (by omega))
    obtain ⟨rfl, rfl⟩ : t = a' ∧ r = r' := by rw [hx9] at hx8; injection hx8 with hx8; injection hx8 with e1 e2; exact ⟨e1, e2⟩
    have HP10 := Lib.hid hp
    have HF10 := Lib.hid hcm.1
    have HY2 : Hid (y = .ok (scopeN t.text, r)) := by show _ = _; rw [← HY.out, hx9]; rfl
    clear hcm hf hj hr hu hp hx8 hx9
    simp only [List.foldl_cons, List.foldl_nil, List.setIfInBounds_toArray, List.set_cons_zero, List.set_cons_succ]
    rw [e3]
    clear e3
    generalize f 3 = g3
    generalize f 4 = g4
    generalize f 5 = g5
    generalize f 6 = g6
    generalize f 7 = g7
    generalize f 8 = g8
    generalize f 9 = g9
    generalize f 10 = g10
    clear f
    go_wp2_with fail
    go_ret
    rw [HY2.out]
    exact ⟨HF10.out, HP10.out, _, rfl, rfl, scopeN_lt _⟩
end Go.Proofs.YtganlldidjbpiaaGreatDoor

namespace Go.Proofs.YtganlldidjbpiaaGreatDoor
open Go.RowKit Go.Shelf

def areaP (ts : List Tok) : PR (Nat × Int) := andP (scopeP ts) fun d r => andP (numP r) fun i r => .ok ((d, i), r)
def amountP (ts : List Tok) : PR Int := andP (numP ts) fun a r => .ok (a, r)
def windowP (ts : List Tok) : PR ((Nat × Int) × Int × Int) := andP (areaP ts) fun y r => andP (wantP sFrom r) fun _ r => andP (numP r) fun a r => andP (wantP sTo r) fun _ r => andP (numP r) fun b r => .ok ((y, a, b), r)
def capP (ts : List Tok) : PR (Int × Int) := andP (wantP sFeed ts) fun _ r => andP (numP r) fun i r => andP (wantP sAt r) fun _ r => andP (numP r) fun a r => .ok ((i, a), r)
def spreadP (ts : List Tok) : PR (Int × Nat) := andP (numP ts) fun a r => andP (wantP sPer r) fun _ r => andP (scopeP r) fun d r => .ok ((a, d), r)
def nearP (ts : List Tok) : PR (List UInt8 × Int) := andP (nameP ts) fun n r => andP (wantP sWithin r) fun _ r => andP (numP r) fun a r => .ok ((n, a), r)
set_option maxRecDepth 100000 in
set_option maxHeartbeats 4000000 in
theorem amount_c (N : Nat) (w : World) (p c : Nat) (ts : List Tok) (en : Int) (k vn d i a b vi o : Value) (h : PS w p ts en) (hb : Box w c #[k, vn, d, i, a, b, vi, o] 43) (hpc : p < c) (hN : N ≤ w.heap.size) (hNp : N ≤ p) (he : Wds N w) :
    Calls Tryz.prog 82 #[.pointer (some ⟨p, 0, none⟩), .pointer (some ⟨c, 0, none⟩)] w (Rd (fun g => g = p ∨ g = c) p en w (fun y v w' => v = .tuple #[] ∧ Box w' c #[k, vn, d, i, .int .i64 y, b, vi, o] 43 ∧ In64 y) (amountP ts)) := by
  have hS : ∀ b, (b = p ∨ b = c) → N ≤ b := fun b e => by rcases e with e | e <;> omega
  have hcw := hb.lt
  have hpw := h.lt
  obtain ⟨x, hx⟩ : ∃ x, amountP ts = x := ⟨_, rfl⟩
  rw [hx]
  have HX0 : Hid ((andP (numP ts) fun y0 s0 => (.ok (y0, s0) : PR _)) = x) := hx
  have HP0 := Lib.hid h
  have HB0 := Lib.hid hb
  have HF0 : Hid (Fx (fun g => g = p ∨ g = c) w w) := Fx.refl _ _
  have HE0 := Lib.hid he
  clear hx h hb he
  go_enter Tryz.func82, Tryz.ntmps82
  go_wp2_with fail
  refine (number_c _ p ts en HP0.out).mono ?_
  rintro e w1 ⟨hf, hr⟩
  have HF1 := Lib.hid (HF0.out.trans (hf.mono (fun b e => .inl e)))
  have HE1 := Lib.hid (HE0.out.fx (hf.mono (fun b e => .inl e)) hS)
  have HB1 := Lib.hid (HB0.out.fx hf (fun e => by omega))
  clear hf HF0 HE0 HB0 HP0
  rcases hn : numP ts with r1 | ⟨z0, r1⟩
  · rw [hn] at hr
    have HX1 : Hid (x = .error r1) := by have := HX0.out; rw [hn] at this; exact this.symm
    have hr : e = _ := hr
    subst hr
    clear hn HX0
    go_wp2_with fail
    rw [HX1.out]
    exact ⟨rfl, HF1.out, rfl⟩
  rw [hn] at hr
  obtain ⟨hp, v, rfl, rfl, hz0⟩ := hr
  have HZ0 := Lib.hid hz0
  clear hz0
  have HX1 : Hid ((.ok (z0, r1) : PR _) = x) := by have := HX0.out; rw [hn] at this; exact this
  have HP1 := Lib.hid hp
  clear hp hn HX0
  obtain ⟨w2, hw2⟩ : ∃ w2, w2 = w1.setCell ⟨c, 4, none⟩ (.int .i64 z0) := ⟨_, rfl⟩
  have hfs : Fx (fun g => g = c) w1 w2 := hw2 ▸ Fx.set w1 c 4 _
  have cj : w1.cell? ⟨c, 4, none⟩ = some (a) := HB1.out.cell 4
  have fj := HB1.out.frozen 4
  have HB0 : Hid (Box w2 c #[k, vn, d, i, .int .i64 z0, b, vi, o] 43) := by show Box _ _ _ _; rw [hw2]; simpa using HB1.out.set 4 (.int .i64 z0)
  have HP0 := Lib.hid (HP1.out.fx hfs (fun b e => e ▸ hpc))
  have HE0 := Lib.hid (HE1.out.fx hfs (fun b e => hS b (.inr e)))
  have HF0 := Lib.hid (HF1.out.trans (hfs.mono (fun b e => .inr e)))
  have HX0 := HX1
  clear HB1 HP1 HE1 HF1 HX1 hfs
  go_wp2_with fail
  rw [← hw2]
  clear hw2 cj fj
  go_end0
  rw [← HX0.out]
  exact ⟨HF0.out, HP0.out, _, rfl, rfl, HB0.out, HZ0.out⟩
set_option maxRecDepth 100000 in
set_option maxHeartbeats 4000000 in
theorem area_c (N : Nat) (w : World) (p c : Nat) (ts : List Tok) (en : Int) (k vn d i a b vi o : Value) (h : PS w p ts en) (hb : Box w c #[k, vn, d, i, a, b, vi, o] 43) (hpc : p < c) (hN : N ≤ w.heap.size) (hNp : N ≤ p) (he : Wds N w) :
    Calls Tryz.prog 81 #[.pointer (some ⟨p, 0, none⟩), .pointer (some ⟨c, 0, none⟩)] w (Rd (fun g => g = p ∨ g = c) p en w (fun y v w' => v = .tuple #[] ∧ Box w' c #[k, vn, .int .u8 ((y.1 : Nat) : Int), .int .i64 y.2, a, b, vi, o] 43 ∧ y.1 < 256 ∧ In64 y.2) (areaP ts)) := by
  have hS : ∀ b, (b = p ∨ b = c) → N ≤ b := fun b e => by rcases e with e | e <;> omega
  have hcw := hb.lt
  have hpw := h.lt
  obtain ⟨x, hx⟩ : ∃ x, areaP ts = x := ⟨_, rfl⟩
  rw [hx]
  have HX0 : Hid ((andP (scopeP ts) fun y0 s0 => (andP (numP s0) fun y1 s1 => (.ok ((y0, y1), s1) : PR _))) = x) := hx
  have HP0 := Lib.hid h
  have HB0 := Lib.hid hb
  have HF0 : Hid (Fx (fun g => g = p ∨ g = c) w w) := Fx.refl _ _
  have HE0 := Lib.hid he
  clear hx h hb he
  go_enter Tryz.func81, Tryz.ntmps81
  go_wp2_with fail
  refine (scope_c N _ p ts en HP0.out (Nat.le_trans hN HF0.out.size) hNp HE0.out).mono ?_
  rintro e w1 ⟨hf, hr⟩
  have HF1 := Lib.hid (HF0.out.trans (hf.mono (fun b e => .inl e)))
  have HE1 := Lib.hid (HE0.out.fx (hf.mono (fun b e => .inl e)) hS)
  have HB1 := Lib.hid (HB0.out.fx hf (fun e => by omega))
  clear hf HF0 HE0 HB0 HP0
  rcases hn : scopeP ts with r1 | ⟨z0, r1⟩
  · rw [hn] at hr
    have HX1 : Hid (x = .error r1) := by have := HX0.out; rw [hn] at this; exact this.symm
    have hr : e = _ := hr
    subst hr
    clear hn HX0
    go_wp2_with fail
    rw [HX1.out]
    exact ⟨rfl, HF1.out, rfl⟩
  rw [hn] at hr
  obtain ⟨hp, v, rfl, rfl, hz0⟩ := hr
  have HZ0 := Lib.hid hz0
  clear hz0
  have HX1 : Hid ((andP (numP r1) fun y1 s1 => (.ok ((z0, y1), s1) : PR _)) = x) := by have := HX0.out; rw [hn] at this; exact this
  have HP1 := Lib.hid hp
  clear hp hn HX0
  obtain ⟨w2, hw2⟩ : ∃ w2, w2 = w1.setCell ⟨c, 2, none⟩ (.int .u8 ((z0 : Nat) : Int)) := ⟨_, rfl⟩
  have hfs : Fx (fun g => g = c) w1 w2 := hw2 ▸ Fx.set w1 c 2 _
  have cj : w1.cell? ⟨c, 2, none⟩ = some (d) := HB1.out.cell 2
  have fj := HB1.out.frozen 2
  have HB0 : Hid (Box w2 c #[k, vn, .int .u8 ((z0 : Nat) : Int), i, a, b, vi, o] 43) := by show Box _ _ _ _; rw [hw2]; simpa using HB1.out.set 2 (.int .u8 ((z0 : Nat) : Int))
  have HP0 := Lib.hid (HP1.out.fx hfs (fun b e => e ▸ hpc))
  have HE0 := Lib.hid (HE1.out.fx hfs (fun b e => hS b (.inr e)))
  have HF0 := Lib.hid (HF1.out.trans (hfs.mono (fun b e => .inr e)))
  have HX0 := HX1
  clear HB1 HP1 HE1 HF1 HX1 hfs
  go_wp2_with fail
  rw [← hw2]
  clear hw2 cj fj
  refine (number_c _ p r1 en HP0.out).mono ?_
  rintro e w3 ⟨hf, hr⟩
  have HF1 := Lib.hid (HF0.out.trans (hf.mono (fun b e => .inl e)))
  have HE1 := Lib.hid (HE0.out.fx (hf.mono (fun b e => .inl e)) hS)
  have HB1 := Lib.hid (HB0.out.fx hf (fun e => by omega))
  clear hf HF0 HE0 HB0 HP0
  rcases hn : numP r1 with r2 | ⟨z1, r2⟩
  · rw [hn] at hr
    have HX1 : Hid (x = .error r2) := by have := HX0.out; rw [hn] at this; exact this.symm
    have hr : e = _ := hr
    subst hr
    clear hn HX0
    go_wp2_with fail
    rw [HX1.out]
    exact ⟨rfl, HF1.out, rfl⟩
  rw [hn] at hr
  obtain ⟨hp, v, rfl, rfl, hz1⟩ := hr
  have HZ1 := Lib.hid hz1
  clear hz1
  have HX1 : Hid ((.ok ((z0, z1), r2) : PR _) = x) := by have := HX0.out; rw [hn] at this; exact this
  have HP1 := Lib.hid hp
  clear hp hn HX0
  obtain ⟨w4, hw2⟩ : ∃ w4, w4 = w3.setCell ⟨c, 3, none⟩ (.int .i64 z1) := ⟨_, rfl⟩
  have hfs : Fx (fun g => g = c) w3 w4 := hw2 ▸ Fx.set w3 c 3 _
  have cj : w3.cell? ⟨c, 3, none⟩ = some (i) := HB1.out.cell 3
  have fj := HB1.out.frozen 3
  have HB0 : Hid (Box w4 c #[k, vn, .int .u8 ((z0 : Nat) : Int), .int .i64 z1, a, b, vi, o] 43) := by show Box _ _ _ _; rw [hw2]; simpa using HB1.out.set 3 (.int .i64 z1)
  have HP0 := Lib.hid (HP1.out.fx hfs (fun b e => e ▸ hpc))
  have HE0 := Lib.hid (HE1.out.fx hfs (fun b e => hS b (.inr e)))
  have HF0 := Lib.hid (HF1.out.trans (hfs.mono (fun b e => .inr e)))
  have HX0 := HX1
  clear HB1 HP1 HE1 HF1 HX1 hfs
  go_wp2_with fail
  rw [← hw2]
  clear hw2 cj fj
  go_end0
  rw [← HX0.out]
  exact ⟨HF0.out, HP0.out, _, rfl, rfl, HB0.out, HZ0.out, HZ1.out⟩
set_option maxRecDepth 100000 in
set_option maxHeartbeats 4000000 in
theorem window_c (N : Nat) (w : World) (p c : Nat) (ts : List Tok) (en : Int) (k vn d i a b vi o : Value) (h : PS w p ts en) (hb : Box w c #[k, vn, d, i, a, b, vi, o] 43) (hpc : p < c) (hN : N ≤ w.heap.size) (hNp : N ≤ p) (he : Wds N w) :
    Calls Tryz.prog 80 #[.pointer (some ⟨p, 0, none⟩), .pointer (some ⟨c, 0, none⟩)] w (Rd (fun g => g = p ∨ g = c) p en w (fun y v w' => v = .tuple #[] ∧ Box w' c #[k, vn, .int .u8 ((y.1.1 : Nat) : Int), .int .i64 y.1.2, .int .i64 y.2.1, .int .i64 y.2.2, vi, o] 43 ∧ (y.1.1 < 256 ∧ In64 y.1.2) ∧ In64 y.2.1 ∧ In64 y.2.2) (windowP ts)) := by
  have hS : ∀ b, (b = p ∨ b = c) → N ≤ b := fun b e => by rcases e with e | e <;> omega
  have hcw := hb.lt
  have hpw := h.lt
  obtain ⟨x, hx⟩ : ∃ x, windowP ts = x := ⟨_, rfl⟩
  rw [hx]
  have HX0 : Hid ((andP (areaP ts) fun y0 s0 => (andP (wantP sFrom s0) fun _ s1 => (andP (numP s1) fun y2 s2 => (andP (wantP sTo s2) fun _ s3 => (andP (numP s3) fun y4 s4 => (.ok ((y0, y2, y4), s4) : PR _)))))) = x) := hx
  have HP0 := Lib.hid h
  have HB0 := Lib.hid hb
  have HF0 : Hid (Fx (fun g => g = p ∨ g = c) w w) := Fx.refl _ _
  have HE0 := Lib.hid he
  clear hx h hb he
  go_enter Tryz.func80, Tryz.ntmps80
  go_wp2_with fail
  refine (area_c N _ p c ts en _ _ _ _ _ _ _ _ HP0.out HB0.out hpc (Nat.le_trans hN HF0.out.size) hNp HE0.out).mono ?_
  rintro e w1 ⟨hf, hr⟩
  have HF1 := Lib.hid (HF0.out.trans hf)
  have HE1 := Lib.hid (HE0.out.fx hf hS)
  clear hf HF0 HE0 HB0 HP0
  rcases hn : areaP ts with r1 | ⟨z0, r1⟩
  · rw [hn] at hr
    have HX1 : Hid (x = .error r1) := by have := HX0.out; rw [hn] at this; exact this.symm
    have hr : e = _ := hr
    subst hr
    clear hn HX0
    go_wp2_with fail
    rw [HX1.out]
    exact ⟨rfl, HF1.out, rfl⟩
  rw [hn] at hr
  obtain ⟨hp, v, rfl, rfl, hb1, hz0⟩ := hr
  have HB1 := Lib.hid hb1
  clear hb1
  have HZ0 := Lib.hid hz0
  clear hz0
  have HX1 : Hid ((andP (wantP sFrom r1) fun _ s1 => (andP (numP s1) fun y2 s2 => (andP (wantP sTo s2) fun _ s3 => (andP (numP s3) fun y4 s4 => (.ok ((z0, y2, y4), s4) : PR _))))) = x) := by have := HX0.out; rw [hn] at this; exact this
  have HP1 := Lib.hid hp
  clear hp hn HX0
  have HF0 := HF1
  have HE0 := HE1
  have HB0 := HB1
  have HP0 := HP1
  have HX0 := HX1
  clear HF1 HE1 HB1 HP1 HX1
  go_wp2_with fail
  refine (want_c _ p r1 en sFrom HP0.out).mono ?_
  rintro e w3 ⟨hf, hr⟩
  have HF1 := Lib.hid (HF0.out.trans (hf.mono (fun b e => .inl e)))
  have HE1 := Lib.hid (HE0.out.fx (hf.mono (fun b e => .inl e)) hS)
  have HB1 := Lib.hid (HB0.out.fx hf (fun e => by omega))
  clear hf HF0 HE0 HB0 HP0
  rcases hn : wantP sFrom r1 with r2 | ⟨z1, r2⟩
  · rw [hn] at hr
    have HX1 : Hid (x = .error r2) := by have := HX0.out; rw [hn] at this; exact this.symm
    have hr : e = _ := hr
    subst hr
    clear hn HX0
    go_wp2_with fail
    rw [HX1.out]
    exact ⟨rfl, HF1.out, rfl⟩
  rw [hn] at hr
  obtain ⟨hp, v, rfl, rfl⟩ := hr
  have HX1 : Hid ((andP (numP r2) fun y2 s2 => (andP (wantP sTo s2) fun _ s3 => (andP (numP s3) fun y4 s4 => (.ok ((z0, y2, y4), s4) : PR _)))) = x) := by have := HX0.out; rw [hn] at this; exact this
  have HP1 := Lib.hid hp
  clear hp hn HX0
  have HF0 := HF1
  have HE0 := HE1
  have HB0 := HB1
  have HP0 := HP1
  have HX0 := HX1
  clear HF1 HE1 HB1 HP1 HX1
  go_wp2_with fail
  refine (number_c _ p r2 en HP0.out).mono ?_
  rintro e w5 ⟨hf, hr⟩
  have HF1 := Lib.hid (HF0.out.trans (hf.mono (fun b e => .inl e)))
  have HE1 := Lib.hid (HE0.out.fx (hf.mono (fun b e => .inl e)) hS)
  have HB1 := Lib.hid (HB0.out.fx hf (fun e => by omega))
  clear hf HF0 HE0 HB0 HP0
  rcases hn : numP r2 with r3 | ⟨z2, r3⟩
  · rw [hn] at hr
    have HX1 : Hid (x = .error r3) := by have := HX0.out; rw [hn] at this; exact this.symm
    have hr : e = _ := hr
    subst hr
    clear hn HX0
    go_wp2_with fail
    rw [HX1.out]
    exact ⟨rfl, HF1.out, rfl⟩
  rw [hn] at hr
  obtain ⟨hp, v, rfl, rfl, hz2⟩ := hr
  have HZ2 := Lib.hid hz2
  clear hz2
  have HX1 : Hid ((andP (wantP sTo r3) fun _ s3 => (andP (numP s3) fun y4 s4 => (.ok ((z0, z2, y4), s4) : PR _))) = x) := by have := HX0.out; rw [hn] at this; exact this
  have HP1 := Lib.hid hp
  clear hp hn HX0
  obtain ⟨w6, hw2⟩ : ∃ w6, w6 = w5.setCell ⟨c, 4, none⟩ (.int .i64 z2) := ⟨_, rfl⟩
  have hfs : Fx (fun g => g = c) w5 w6 := hw2 ▸ Fx.set w5 c 4 _
  have cj : w5.cell? ⟨c, 4, none⟩ = some (a) := HB1.out.cell 4
  have fj := HB1.out.frozen 4
  have HB0 : Hid (Box w6 c #[k, vn, .int .u8 ((z0.1 : Nat) : Int), .int .i64 z0.2, .int .i64 z2, b, vi, o] 43) := by show Box _ _ _ _; rw [hw2]; simpa using HB1.out.set 4 (.int .i64 z2)
  have HP0 := Lib.hid (HP1.out.fx hfs (fun b e => e ▸ hpc))
  have HE0 := Lib.hid (HE1.out.fx hfs (fun b e => hS b (.inr e)))
  have HF0 := Lib.hid (HF1.out.trans (hfs.mono (fun b e => .inr e)))
  have HX0 := HX1
  clear HB1 HP1 HE1 HF1 HX1 hfs
  go_wp2_with fail
  rw [← hw2]
  clear hw2 cj fj
  refine (want_c _ p r3 en sTo HP0.out).mono ?_
  rintro e w7 ⟨hf, hr⟩
  have HF1 := Lib.hid (HF0.out.trans (hf.mono (fun b e => .inl e)))
  have HE1 := Lib.hid (HE0.out.fx (hf.mono (fun b e => .inl e)) hS)
  have HB1 := Lib.hid (HB0.out.fx hf (fun e => by omega))
  clear hf HF0 HE0 HB0 HP0
  rcases hn : wantP sTo r3 with r4 | ⟨z3, r4⟩
  · rw [hn] at hr
    have HX1 : Hid (x = .error r4) := by have := HX0.out; rw [hn] at this; exact this.symm
    have hr : e = _ := hr
    subst hr
    clear hn HX0
    go_wp2_with fail
    rw [HX1.out]
    exact ⟨rfl, HF1.out, rfl⟩
  rw [hn] at hr
  obtain ⟨hp, v, rfl, rfl⟩ := hr
  have HX1 : Hid ((andP (numP r4) fun y4 s4 => (.ok ((z0, z2, y4), s4) : PR _)) = x) := by have := HX0.out; rw [hn] at this; exact this
  have HP1 := Lib.hid hp
  clear hp hn HX0
  have HF0 := HF1
  have HE0 := HE1
  have HB0 := HB1
  have HP0 := HP1
  have HX0 := HX1
  clear HF1 HE1 HB1 HP1 HX1
  go_wp2_with fail
  refine (number_c _ p r4 en HP0.out).mono ?_
  rintro e w9 ⟨hf, hr⟩
  have HF1 := Lib.hid (HF0.out.trans (hf.mono (fun b e => .inl e)))
  have HE1 := Lib.hid (HE0.out.fx (hf.mono (fun b e => .inl e)) hS)
  have HB1 := Lib.hid (HB0.out.fx hf (fun e => by omega))
  clear hf HF0 HE0 HB0 HP0
  rcases hn : numP r4 with r5 | ⟨z4, r5⟩
  · rw [hn] at hr
    have HX1 : Hid (x = .error r5) := by have := HX0.out; rw [hn] at this; exact this.symm
    have hr : e = _ := hr
    subst hr
    clear hn HX0
    go_wp2_with fail
    rw [HX1.out]
    exact ⟨rfl, HF1.out, rfl⟩
  rw [hn] at hr
  obtain ⟨hp, v, rfl, rfl, hz4⟩ := hr
  have HZ4 := Lib.hid hz4
  clear hz4
  have HX1 : Hid ((.ok ((z0, z2, z4), r5) : PR _) = x) := by have := HX0.out; rw [hn] at this; exact this
  have HP1 := Lib.hid hp
  clear hp hn HX0
  obtain ⟨w10, hw2⟩ : ∃ w10, w10 = w9.setCell ⟨c, 5, none⟩ (.int .i64 z4) := ⟨_, rfl⟩
  have hfs : Fx (fun g => g = c) w9 w10 := hw2 ▸ Fx.set w9 c 5 _
  have cj : w9.cell? ⟨c, 5, none⟩ = some (b) := HB1.out.cell 5
  have fj := HB1.out.frozen 5
  have HB0 : Hid (Box w10 c #[k, vn, .int .u8 ((z0.1 : Nat) : Int), .int .i64 z0.2, .int .i64 z2, .int .i64 z4, vi, o] 43) := by show Box _ _ _ _; rw [hw2]; simpa using HB1.out.set 5 (.int .i64 z4)
  have HP0 := Lib.hid (HP1.out.fx hfs (fun b e => e ▸ hpc))
  have HE0 := Lib.hid (HE1.out.fx hfs (fun b e => hS b (.inr e)))
  have HF0 := Lib.hid (HF1.out.trans (hfs.mono (fun b e => .inr e)))
  have HX0 := HX1
  clear HB1 HP1 HE1 HF1 HX1 hfs
  go_wp2_with fail
  rw [← hw2]
  clear hw2 cj fj
  go_end0
  rw [← HX0.out]
  exact ⟨HF0.out, HP0.out, _, rfl, rfl, HB0.out, HZ0.out, HZ2.out, HZ4.out⟩
set_option maxRecDepth 100000 in
set_option maxHeartbeats 4000000 in
theorem cap_c (N : Nat) (w : World) (p c : Nat) (ts : List Tok) (en : Int) (k vn d i a b vi o : Value) (h : PS w p ts en) (hb : Box w c #[k, vn, d, i, a, b, vi, o] 43) (hpc : p < c) (hN : N ≤ w.heap.size) (hNp : N ≤ p) (he : Wds N w) :
    Calls Tryz.prog 83 #[.pointer (some ⟨p, 0, none⟩), .pointer (some ⟨c, 0, none⟩)] w (Rd (fun g => g = p ∨ g = c) p en w (fun y v w' => v = .tuple #[] ∧ Box w' c #[k, vn, d, .int .i64 y.1, .int .i64 y.2, b, vi, o] 43 ∧ In64 y.1 ∧ In64 y.2) (capP ts)) := by
  have hS : ∀ b, (b = p ∨ b = c) → N ≤ b := fun b e => by rcases e with e | e <;> omega
  have hcw := hb.lt
  have hpw := h.lt
  obtain ⟨x, hx⟩ : ∃ x, capP ts = x := ⟨_, rfl⟩
  rw [hx]
  have HX0 : Hid ((andP (wantP sFeed ts) fun _ s0 => (andP (numP s0) fun y1 s1 => (andP (wantP sAt s1) fun _ s2 => (andP (numP s2) fun y3 s3 => (.ok ((y1, y3), s3) : PR _))))) = x) := hx
  have HP0 := Lib.hid h
  have HB0 := Lib.hid hb
  have HF0 : Hid (Fx (fun g => g = p ∨ g = c) w w) := Fx.refl _ _
  have HE0 := Lib.hid he
  clear hx h hb he
  go_enter Tryz.func83, Tryz.ntmps83
  go_wp2_with fail
  refine (want_c _ p ts en sFeed HP0.out).mono ?_
  rintro e w1 ⟨hf, hr⟩
  have HF1 := Lib.hid (HF0.out.trans (hf.mono (fun b e => .inl e)))
  have HE1 := Lib.hid (HE0.out.fx (hf.mono (fun b e => .inl e)) hS)
  have HB1 := Lib.hid (HB0.out.fx hf (fun e => by omega))
  clear hf HF0 HE0 HB0 HP0
  rcases hn : wantP sFeed ts with r1 | ⟨z0, r1⟩
  · rw [hn] at hr
    have HX1 : Hid (x = .error r1) := by have := HX0.out; rw [hn] at this; exact this.symm
    have hr : e = _ := hr
    subst hr
    clear hn HX0
    go_wp2_with fail
    rw [HX1.out]
    exact ⟨rfl, HF1.out, rfl⟩
  rw [hn] at hr
  obtain ⟨hp, v, rfl, rfl⟩ := hr
  have HX1 : Hid ((andP (numP r1) fun y1 s1 => (andP (wantP sAt s1) fun _ s2 => (andP (numP s2) fun y3 s3 => (.ok ((y1, y3), s3) : PR _)))) = x) := by have := HX0.out; rw [hn] at this; exact this
  have HP1 := Lib.hid hp
  clear hp hn HX0
  have HF0 := HF1
  have HE0 := HE1
  have HB0 := HB1
  have HP0 := HP1
  have HX0 := HX1
  clear HF1 HE1 HB1 HP1 HX1
  go_wp2_with fail
  refine (number_c _ p r1 en HP0.out).mono ?_
  rintro e w3 ⟨hf, hr⟩
  have HF1 := Lib.hid (HF0.out.trans (hf.mono (fun b e => .inl e)))
  have HE1 := Lib.hid (HE0.out.fx (hf.mono (fun b e => .inl e)) hS)
  have HB1 := Lib.hid (HB0.out.fx hf (fun e => by omega))
  clear hf HF0 HE0 HB0 HP0
  rcases hn : numP r1 with r2 | ⟨z1, r2⟩
  · rw [hn] at hr
    have HX1 : Hid (x = .error r2) := by have := HX0.out; rw [hn] at this; exact this.symm
    have hr : e = _ := hr
    subst hr
    clear hn HX0
    go_wp2_with fail
    rw [HX1.out]
    exact ⟨rfl, HF1.out, rfl⟩
  rw [hn] at hr
  obtain ⟨hp, v, rfl, rfl, hz1⟩ := hr
  have HZ1 := Lib.hid hz1
  clear hz1
  have HX1 : Hid ((andP (wantP sAt r2) fun _ s2 => (andP (numP s2) fun y3 s3 => (.ok ((z1, y3), s3) : PR _))) = x) := by have := HX0.out; rw [hn] at this; exact this
  have HP1 := Lib.hid hp
  clear hp hn HX0
  obtain ⟨w4, hw2⟩ : ∃ w4, w4 = w3.setCell ⟨c, 3, none⟩ (.int .i64 z1) := ⟨_, rfl⟩
  have hfs : Fx (fun g => g = c) w3 w4 := hw2 ▸ Fx.set w3 c 3 _
  have cj : w3.cell? ⟨c, 3, none⟩ = some (i) := HB1.out.cell 3
  have fj := HB1.out.frozen 3
  have HB0 : Hid (Box w4 c #[k, vn, d, .int .i64 z1, a, b, vi, o] 43) := by show Box _ _ _ _; rw [hw2]; simpa using HB1.out.set 3 (.int .i64 z1)
  have HP0 := Lib.hid (HP1.out.fx hfs (fun b e => e ▸ hpc))
  have HE0 := Lib.hid (HE1.out.fx hfs (fun b e => hS b (.inr e)))
  have HF0 := Lib.hid (HF1.out.trans (hfs.mono (fun b e => .inr e)))
  have HX0 := HX1
  clear HB1 HP1 HE1 HF1 HX1 hfs
  go_wp2_with fail
  rw [← hw2]
  clear hw2 cj fj
  refine (want_c _ p r2 en sAt HP0.out).mono ?_
  rintro e w5 ⟨hf, hr⟩
  have HF1 := Lib.hid (HF0.out.trans (hf.mono (fun b e => .inl e)))
  have HE1 := Lib.hid (HE0.out.fx (hf.mono (fun b e => .inl e)) hS)
  have HB1 := Lib.hid (HB0.out.fx hf (fun e => by omega))
  clear hf HF0 HE0 HB0 HP0
  rcases hn : wantP sAt r2 with r3 | ⟨z2, r3⟩
  · rw [hn] at hr
    have HX1 : Hid (x = .error r3) := by have := HX0.out; rw [hn] at this; exact this.symm
    have hr : e = _ := hr
    subst hr
    clear hn HX0
    go_wp2_with fail
    rw [HX1.out]
    exact ⟨rfl, HF1.out, rfl⟩
  rw [hn] at hr
  obtain ⟨hp, v, rfl, rfl⟩ := hr
  have HX1 : Hid ((andP (numP r3) fun y3 s3 => (.ok ((z1, y3), s3) : PR _)) = x) := by have := HX0.out; rw [hn] at this; exact this
  have HP1 := Lib.hid hp
  clear hp hn HX0
  have HF0 := HF1
  have HE0 := HE1
  have HB0 := HB1
  have HP0 := HP1
  have HX0 := HX1
  clear HF1 HE1 HB1 HP1 HX1
  go_wp2_with fail
  refine (number_c _ p r3 en HP0.out).mono ?_
  rintro e w7 ⟨hf, hr⟩
  have HF1 := Lib.hid (HF0.out.trans (hf.mono (fun b e => .inl e)))
  have HE1 := Lib.hid (HE0.out.fx (hf.mono (fun b e => .inl e)) hS)
  have HB1 := Lib.hid (HB0.out.fx hf (fun e => by omega))
  clear hf HF0 HE0 HB0 HP0
  rcases hn : numP r3 with r4 | ⟨z3, r4⟩
  · rw [hn] at hr
    have HX1 : Hid (x = .error r4) := by have := HX0.out; rw [hn] at this; exact this.symm
    have hr : e = _ := hr
    subst hr
    clear hn HX0
    go_wp2_with fail
    rw [HX1.out]
    exact ⟨rfl, HF1.out, rfl⟩
  rw [hn] at hr
  obtain ⟨hp, v, rfl, rfl, hz3⟩ := hr
  have HZ3 := Lib.hid hz3
  clear hz3
  have HX1 : Hid ((.ok ((z1, z3), r4) : PR _) = x) := by have := HX0.out; rw [hn] at this; exact this
  have HP1 := Lib.hid hp
  clear hp hn HX0
  obtain ⟨w8, hw2⟩ : ∃ w8, w8 = w7.setCell ⟨c, 4, none⟩ (.int .i64 z3) := ⟨_, rfl⟩
  have hfs : Fx (fun g => g = c) w7 w8 := hw2 ▸ Fx.set w7 c 4 _
  have cj : w7.cell? ⟨c, 4, none⟩ = some (a) := HB1.out.cell 4
  have fj := HB1.out.frozen 4
  have HB0 : Hid (Box w8 c #[k, vn, d, .int .i64 z1, .int .i64 z3, b, vi, o] 43) := by show Box _ _ _ _; rw [hw2]; simpa using HB1.out.set 4 (.int .i64 z3)
  have HP0 := Lib.hid (HP1.out.fx hfs (fun b e => e ▸ hpc))
  have HE0 := Lib.hid (HE1.out.fx hfs (fun b e => hS b (.inr e)))
  have HF0 := Lib.hid (HF1.out.trans (hfs.mono (fun b e => .inr e)))
  have HX0 := HX1
  clear HB1 HP1 HE1 HF1 HX1 hfs
  go_wp2_with fail
  rw [← hw2]
  clear hw2 cj fj
  go_end0
  rw [← HX0.out]
  exact ⟨HF0.out, HP0.out, _, rfl, rfl, HB0.out, HZ1.out, HZ3.out⟩
set_option maxRecDepth 100000 in
set_option maxHeartbeats 4000000 in
theorem spread_c (N : Nat) (w : World) (p c : Nat) (ts : List Tok) (en : Int) (k vn d i a b vi o : Value) (h : PS w p ts en) (hb : Box w c #[k, vn, d, i, a, b, vi, o] 43) (hpc : p < c) (hN : N ≤ w.heap.size) (hNp : N ≤ p) (he : Wds N w) :
    Calls Tryz.prog 123 #[.pointer (some ⟨p, 0, none⟩), .pointer (some ⟨c, 0, none⟩)] w (Rd (fun g => g = p ∨ g = c) p en w (fun y v w' => v = .tuple #[] ∧ Box w' c #[k, vn, .int .u8 ((y.2 : Nat) : Int), i, .int .i64 y.1, b, vi, o] 43 ∧ In64 y.1 ∧ y.2 < 256) (spreadP ts)) := by
  have hS : ∀ b, (b = p ∨ b = c) → N ≤ b := fun b e => by rcases e with e | e <;> omega
  have hcw := hb.lt
  have hpw := h.lt
  obtain ⟨x, hx⟩ : ∃ x, spreadP ts = x := ⟨_, rfl⟩
  rw [hx]
  have HX0 : Hid ((andP (numP ts) fun y0 s0 => (andP (wantP sPer s0) fun _ s1 => (andP (scopeP s1) fun y2 s2 => (.ok ((y0, y2), s2) : PR _)))) = x) := hx
  have HP0 := Lib.hid h
  have HB0 := Lib.hid hb
  have HF0 : Hid (Fx (fun g => g = p ∨ g = c) w w) := Fx.refl _ _
  have HE0 := Lib.hid he
  clear hx h hb he
  go_enter Tryz.func123, Tryz.ntmps123
  go_wp2_with fail
  refine (number_c _ p ts en HP0.out).mono ?_
  rintro e w1 ⟨hf, hr⟩
  have HF1 := Lib.hid (HF0.out.trans (hf.mono (fun b e => .inl e)))
  have HE1 := Lib.hid (HE0.out.fx (hf.mono (fun b e => .inl e)) hS)
  have HB1 := Lib.hid (HB0.out.fx hf (fun e => by omega))
  clear hf HF0 HE0 HB0 HP0
  rcases hn : numP ts with r1 | ⟨z0, r1⟩
  · rw [hn] at hr
    have HX1 : Hid (x = .error r1) := by have := HX0.out; rw [hn] at this; exact this.symm
    have hr : e = _ := hr
    subst hr
    clear hn HX0
    go_wp2_with fail
    rw [HX1.out]
    exact ⟨rfl, HF1.out, rfl⟩
  rw [hn] at hr
  obtain ⟨hp, v, rfl, rfl, hz0⟩ := hr
  have HZ0 := Lib.hid hz0
  clear hz0
  have HX1 : Hid ((andP (wantP sPer r1) fun _ s1 => (andP (scopeP s1) fun y2 s2 => (.ok ((z0, y2), s2) : PR _))) = x) := by have := HX0.out; rw [hn] at this; exact this
  have HP1 := Lib.hid hp
  clear hp hn HX0
  obtain ⟨w2, hw2⟩ : ∃ w2, w2 = w1.setCell ⟨c, 4, none⟩ (.int .i64 z0) := ⟨_, rfl⟩
  have hfs : Fx (fun g => g = c) w1 w2 := hw2 ▸ Fx.set w1 c 4 _
  have cj : w1.cell? ⟨c, 4, none⟩ = some (a) := HB1.out.cell 4
  have fj := HB1.out.frozen 4
  have HB0 : Hid (Box w2 c #[k, vn, d, i, .int .i64 z0, b, vi, o] 43) := by show Box _ _ _ _; rw [hw2]; simpa using HB1.out.set 4 (.int .i64 z0)
  have HP0 := Lib.hid (HP1.out.fx hfs (fun b e => e ▸ hpc))
  have HE0 := Lib.hid (HE1.out.fx hfs (fun b e => hS b (.inr e)))
  have HF0 := Lib.hid (HF1.out.trans (hfs.mono (fun b e => .inr e)))
  have HX0 := HX1
  clear HB1 HP1 HE1 HF1 HX1 hfs
  go_wp2_with fail
  rw [← hw2]
  clear hw2 cj fj
  refine (want_c _ p r1 en sPer HP0.out).mono ?_
  rintro e w3 ⟨hf, hr⟩
  have HF1 := Lib.hid (HF0.out.trans (hf.mono (fun b e => .inl e)))
  have HE1 := Lib.hid (HE0.out.fx (hf.mono (fun b e => .inl e)) hS)
  have HB1 := Lib.hid (HB0.out.fx hf (fun e => by omega))
  clear hf HF0 HE0 HB0 HP0
  rcases hn : wantP sPer r1 with r2 | ⟨z1, r2⟩
  · rw [hn] at hr
    have HX1 : Hid (x = .error r2) := by have := HX0.out; rw [hn] at this; exact this.symm
    have hr : e = _ := hr
    subst hr
    clear hn HX0
    go_wp2_with fail
    rw [HX1.out]
    exact ⟨rfl, HF1.out, rfl⟩
  rw [hn] at hr
  obtain ⟨hp, v, rfl, rfl⟩ := hr
  have HX1 : Hid ((andP (scopeP r2) fun y2 s2 => (.ok ((z0, y2), s2) : PR _)) = x) := by have := HX0.out; rw [hn] at this; exact this
  have HP1 := Lib.hid hp
  clear hp hn HX0
  have HF0 := HF1
  have HE0 := HE1
  have HB0 := HB1
  have HP0 := HP1
  have HX0 := HX1
  clear HF1 HE1 HB1 HP1 HX1
  go_wp2_with fail
  refine (scope_c N _ p r2 en HP0.out (Nat.le_trans hN HF0.out.size) hNp HE0.out).mono ?_
  rintro e w5 ⟨hf, hr⟩
  have HF1 := Lib.hid (HF0.out.trans (hf.mono (fun b e => .inl e)))
  have HE1 := Lib.hid (HE0.out.fx (hf.mono (fun b e => .inl e)) hS)
  have HB1 := Lib.hid (HB0.out.fx hf (fun e => by omega))
  clear hf HF0 HE0 HB0 HP0
  rcases hn : scopeP r2 with r3 | ⟨z2, r3⟩
  · rw [hn] at hr
    have HX1 : Hid (x = .error r3) := by have := HX0.out; rw [hn] at this; exact this.symm
    have hr : e = _ := hr
    subst hr
    clear hn HX0
    go_wp2_with fail
    rw [HX1.out]
    exact ⟨rfl, HF1.out, rfl⟩
  rw [hn] at hr
  obtain ⟨hp, v, rfl, rfl, hz2⟩ := hr
  have HZ2 := Lib.hid hz2
  clear hz2
  have HX1 : Hid ((.ok ((z0, z2), r3) : PR _) = x) := by have := HX0.out; rw [hn] at this; exact this
  have HP1 := Lib.hid hp
  clear hp hn HX0
  obtain ⟨w6, hw2⟩ : ∃ w6, w6 = w5.setCell ⟨c, 2, none⟩ (.int .u8 ((z2 : Nat) : Int)) := ⟨_, rfl⟩
  have hfs : Fx (fun g => g = c) w5 w6 := hw2 ▸ Fx.set w5 c 2 _
  have cj : w5.cell? ⟨c, 2, none⟩ = some (d) := HB1.out.cell 2
  have fj := HB1.out.frozen 2
  have HB0 : Hid (Box w6 c #[k, vn, .int .u8 ((z2 : Nat) : Int), i, .int .i64 z0, b, vi, o] 43) := by show Box _ _ _ _; rw [hw2]; simpa using HB1.out.set 2 (.int .u8 ((z2 : Nat) : Int))
  have HP0 := Lib.hid (HP1.out.fx hfs (fun b e => e ▸ hpc))
  have HE0 := Lib.hid (HE1.out.fx hfs (fun b e => hS b (.inr e)))
  have HF0 := Lib.hid (HF1.out.trans (hfs.mono (fun b e => .inr e)))
  have HX0 := HX1
  clear HB1 HP1 HE1 HF1 HX1 hfs
  go_wp2_with fail
  rw [← hw2]
  clear hw2 cj fj
  go_end0
  rw [← HX0.out]
  exact ⟨HF0.out, HP0.out, _, rfl, rfl, HB0.out, HZ0.out, HZ2.out⟩
set_option maxRecDepth 100000 in
set_option maxHeartbeats 4000000 in
theorem near_c (N : Nat) (w : World) (p c : Nat) (ts : List Tok) (en : Int) (k d i a b vi o : Value) (h : PS w p ts en) (hb : Box w c #[k, .slice none 0 0, d, i, a, b, vi, o] 43) (hpc : p < c) (hN : N ≤ w.heap.size) (hNp : N ≤ p) (he : Wds N w) :
    Calls Tryz.prog 125 #[.pointer (some ⟨p, 0, none⟩), .pointer (some ⟨c, 0, none⟩)] w (Rd (fun g => g = p ∨ g = c) p en w (fun y v w' => v = .tuple #[] ∧ ∃ vn', Box w' c #[k, vn', d, i, .int .i64 y.2, b, vi, o] 43 ∧ SlN (fun b => w.heap.size ≤ b) w' vn' [y.1] ∧ In64 y.2) (nearP ts)) := by
  have hS : ∀ b, (b = p ∨ b = c) → N ≤ b := fun b e => by rcases e with e | e <;> omega
  have hcw := hb.lt
  have hpw := h.lt
  obtain ⟨x, hx⟩ : ∃ x, nearP ts = x := ⟨_, rfl⟩
  rw [hx]
  have HX0 : Hid ((andP (nameP ts) fun y0 s0 => (andP (wantP sWithin s0) fun _ s1 => (andP (numP s1) fun y2 s2 => (.ok ((y0, y2), s2) : PR _)))) = x) := hx
  have HP0 := Lib.hid h
  have HB0 := Lib.hid hb
  have HF0 : Hid (Fx (fun g => g = p ∨ g = c) w w) := Fx.refl _ _
  have HE0 := Lib.hid he
  clear hx h hb he
  have HN0 : Hid True := trivial
  go_enter Tryz.func125, Tryz.ntmps125
  go_wp2_with fail
  refine (name_c N _ p ts en HP0.out (Nat.le_trans hN HF0.out.size) HE0.out).mono ?_
  rintro e w1 ⟨hf, hr⟩
  have HF1 := Lib.hid (HF0.out.trans (hf.mono (fun b e => .inl e)))
  have HE1 := Lib.hid (HE0.out.fx (hf.mono (fun b e => .inl e)) hS)
  have HB1 := Lib.hid (HB0.out.fx hf (fun e => by omega))
  clear hf HF0 HE0 HB0 HP0
  rcases hn : nameP ts with r1 | ⟨z0, r1⟩
  · rw [hn] at hr
    have HX1 : Hid (x = .error r1) := by have := HX0.out; rw [hn] at this; exact this.symm
    have hr : e = _ := hr
    subst hr
    clear hn HX0
    go_wp2_with fail
    rw [HX1.out]
    exact ⟨rfl, HF1.out, rfl⟩
  rw [hn] at hr
  obtain ⟨hp, v, rfl, rfl, hz0⟩ := hr
  have HZ0 := Lib.hid hz0
  clear hz0
  have HX1 : Hid ((andP (wantP sWithin r1) fun _ s1 => (andP (numP s1) fun y2 s2 => (.ok ((z0, y2), s2) : PR _))) = x) := by have := HX0.out; rw [hn] at this; exact this
  have HP1 := Lib.hid hp
  clear hp hn HX0
  have cj : w1.cell? ⟨c, 1, none⟩ = some (.slice none 0 0) := HB1.out.cell 1
  have fj := HB1.out.frozen 1
  have hcw1 := HB1.out.lt
  obtain ⟨ws, hws⟩ : ∃ ws, ws = w1.setCell ⟨c, 1, none⟩ (.slice (some ⟨w1.heap.size, 0, none⟩) 1 1) := ⟨_, rfl⟩
  have hss : ws.heap.size = w1.heap.size := by rw [hws]; simp [World.setCell]
  have hfs : Fx (fun g => g = c) w1 ws := hws ▸ Fx.set w1 c 1 _
  obtain ⟨w2, hw2⟩ : ∃ w2, w2 = ws.alloc (.cells #[.string (bs z0)] 9) := ⟨_, rfl⟩
  have hba : Below ws.heap.size ws w2 := hw2 ▸ held_alloc (Below.refl _ _)
  have hna := (OwnN.one ws w.heap.size z0 HZ0.out (Nat.le_trans HF1.out.size hfs.size)).slN.mono (D' := fun b => w.heap.size ≤ b) (fun b hb _ => hb.1)
  rw [← hw2, hss] at hna
  have HN0 := Lib.hid hna
  have HB0 : Hid (Box w2 c #[k, .slice (some ⟨w1.heap.size, 0, none⟩) 1 1, d, i, a, b, vi, o] 43) := by
    have h8 : Box ws c #[k, .slice (some ⟨w1.heap.size, 0, none⟩) 1 1, d, i, a, b, vi, o] 43 := by rw [hws]; simpa using HB1.out.set 1 (.slice (some ⟨w1.heap.size, 0, none⟩) 1 1)
    exact h8.after hba
  have HP0 := Lib.hid ((HP1.out.fx hfs (fun b e => e ▸ hpc)).after hba)
  have HE0 := Lib.hid ((HE1.out.fx hfs (fun b e => hS b (.inr e))).after hba)
  have HF0 := Lib.hid ((HF1.out.trans (hfs.mono (fun b e => .inr e))).below hba)
  have HX0 := HX1
  clear HB1 HP1 HE1 HF1 HX1 hfs hba hna
  go_wp2_with fail
  rw [← hws, ← hw2]
  clear hws hw2 cj fj hss hcw1
  refine (want_c _ p r1 en sWithin HP0.out).mono ?_
  rintro e w3 ⟨hf, hr⟩
  have HF1 := Lib.hid (HF0.out.trans (hf.mono (fun b e => .inl e)))
  have HE1 := Lib.hid (HE0.out.fx (hf.mono (fun b e => .inl e)) hS)
  have HB1 := Lib.hid (HB0.out.fx hf (fun e => by omega))
  have HN1 := Lib.hid (HN0.out.fx hf (fun b hb _ e => by omega))
  clear hf HF0 HE0 HB0 HP0 HN0
  rcases hn : wantP sWithin r1 with r2 | ⟨z1, r2⟩
  · rw [hn] at hr
    have HX1 : Hid (x = .error r2) := by have := HX0.out; rw [hn] at this; exact this.symm
    have hr : e = _ := hr
    subst hr
    clear hn HX0
    go_wp2_with fail
    rw [HX1.out]
    exact ⟨rfl, HF1.out, rfl⟩
  rw [hn] at hr
  obtain ⟨hp, v, rfl, rfl⟩ := hr
  have HX1 : Hid ((andP (numP r2) fun y2 s2 => (.ok ((z0, y2), s2) : PR _)) = x) := by have := HX0.out; rw [hn] at this; exact this
  have HP1 := Lib.hid hp
  clear hp hn HX0
  have HF0 := HF1
  have HE0 := HE1
  have HB0 := HB1
  have HP0 := HP1
  have HX0 := HX1
  clear HF1 HE1 HB1 HP1 HX1
  have HN0 := HN1
  clear HN1
  go_wp2_with fail
  refine (number_c _ p r2 en HP0.out).mono ?_
  rintro e w5 ⟨hf, hr⟩
  have HF1 := Lib.hid (HF0.out.trans (hf.mono (fun b e => .inl e)))
  have HE1 := Lib.hid (HE0.out.fx (hf.mono (fun b e => .inl e)) hS)
  have HB1 := Lib.hid (HB0.out.fx hf (fun e => by omega))
  have HN1 := Lib.hid (HN0.out.fx hf (fun b hb _ e => by omega))
  clear hf HF0 HE0 HB0 HP0 HN0
  rcases hn : numP r2 with r3 | ⟨z2, r3⟩
  · rw [hn] at hr
    have HX1 : Hid (x = .error r3) := by have := HX0.out; rw [hn] at this; exact this.symm
    have hr : e = _ := hr
    subst hr
    clear hn HX0
    go_wp2_with fail
    rw [HX1.out]
    exact ⟨rfl, HF1.out, rfl⟩
  rw [hn] at hr
  obtain ⟨hp, v, rfl, rfl, hz2⟩ := hr
  have HZ2 := Lib.hid hz2
  clear hz2
  have HX1 : Hid ((.ok ((z0, z2), r3) : PR _) = x) := by have := HX0.out; rw [hn] at this; exact this
  have HP1 := Lib.hid hp
  clear hp hn HX0
  obtain ⟨w6, hw2⟩ : ∃ w6, w6 = w5.setCell ⟨c, 4, none⟩ (.int .i64 z2) := ⟨_, rfl⟩
  have hfs : Fx (fun g => g = c) w5 w6 := hw2 ▸ Fx.set w5 c 4 _
  have cj : w5.cell? ⟨c, 4, none⟩ = some (a) := HB1.out.cell 4
  have fj := HB1.out.frozen 4
  have HB0 : Hid (Box w6 c #[k, .slice (some ⟨w1.heap.size, 0, none⟩) 1 1, d, i, .int .i64 z2, b, vi, o] 43) := by show Box _ _ _ _; rw [hw2]; simpa using HB1.out.set 4 (.int .i64 z2)
  have HP0 := Lib.hid (HP1.out.fx hfs (fun b e => e ▸ hpc))
  have HE0 := Lib.hid (HE1.out.fx hfs (fun b e => hS b (.inr e)))
  have HF0 := Lib.hid (HF1.out.trans (hfs.mono (fun b e => .inr e)))
  have HN0 := Lib.hid (HN1.out.fx hfs (fun b hb _ e => by omega))
  have HX0 := HX1
  clear HB1 HP1 HE1 HF1 HX1 hfs HN1
  go_wp2_with fail
  rw [← hw2]
  clear hw2 cj fj
  go_end0
  rw [← HX0.out]
  exact ⟨HF0.out, HP0.out, _, rfl, rfl, _, HB0.out, HN0.out, HZ2.out⟩
end Go.Proofs.YtganlldidjbpiaaGreatDoor
