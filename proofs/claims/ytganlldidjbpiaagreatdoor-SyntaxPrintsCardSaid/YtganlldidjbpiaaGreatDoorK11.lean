/- Walks of package syntax: a service.
   Walks of package syntax: the closure that recovers. -/
import Derived.Test.YtganlldidjbpiaaGreatDoorK10
import Derived.Defers
import Derived.Recover
set_option linter.unusedVariables false
namespace Go.Proofs.YtganlldidjbpiaaGreatDoor
open Go.RowKit Go.Shelf

theorem row_last {us : List (Value × Value)} {nl : List Cl} {z : List Value} (h : (rowsOf us nl).length = nl.length) : (rowsOf us nl ++ [z]).getD nl.length [] = z := by
  rw [List.getD_eq_getElem?_getD, ← h, List.getElem?_concat_length]; rfl
set_option maxRecDepth 100000 in
set_option maxHeartbeats 4000000 in
theorem service_c (N : Nat) (w : World) (p c : Nat) (ts : List Tok) (en o : Int) (h : PS w p ts en) (hb : Box w c (zc 1 o) 43) (hpc : p < c) (hN : N ≤ w.heap.size) (hNp : N ≤ p) (he : Wds N w) (hlen : ts.length ≤ 100000) (ho : In64 o) :
    Calls Tryz.prog 79 #[.pointer (some ⟨p, 0, none⟩), .pointer (some ⟨c, 0, none⟩)] w (Rd (fun g => g = p ∨ g = c) p en w (VC c w.heap.size 1) (bodyT 1 o ts)) := by
  have hS : ∀ b, (b = p ∨ b = c) → N ≤ b := fun b e => by rcases e with e | e <;> omega
  have hcw := hb.lt
  have hpw := h.lt
  obtain ⟨y, hy⟩ : ∃ y, bodyT 1 o ts = y := ⟨_, rfl⟩
  rw [hy]
  have HX0 : Hid ((andP (nameP ts) fun n r => andP (wantP sOpen r) fun _ r => andP (itemsA r) fun l r => (.ok (.mk 1 [n] 0 0 0 0 l o, r) : PR Cl)) = y) := hy
  have HP0 := Lib.hid h
  have HB0 := Lib.hid hb
  have HE0 := Lib.hid he
  clear hy h hb he
  go_enter Tryz.func79, Tryz.ntmps79
  go_wp2_with fail
  refine (name_c N _ p ts en HP0.out hN HE0.out).mono ?_
  rintro e w1 ⟨hf, hr⟩
  have HF1 : Hid (Fx (fun g => g = p ∨ g = c) w w1) := hf.mono (fun b e => .inl e)
  have HE1 := Lib.hid (HE0.out.fx hf (fun b e => hS b (.inl e)))
  have HB1 := Lib.hid (HB0.out.fx hf (fun e => by omega))
  clear hf HE0 HB0 HP0
  rcases hn : nameP ts with r1 | ⟨z0, r1⟩
  · rw [hn] at hr
    have HX1 : Hid (y = .error r1) := by have := HX0.out; rw [hn] at this; exact this.symm
    have hr : e = _ := hr
    subst hr
    clear hn HX0
    go_wp2_with fail
    rw [HX1.out]
    exact ⟨rfl, HF1.out, rfl⟩
  rw [hn] at hr
  obtain ⟨hp, v, rfl, rfl, hz0⟩ := hr
  have HZ0 := Lib.hid hz0
  have hlr : r1.length ≤ ts.length := by obtain ⟨t, e, _⟩ := nameP_len hn; rw [e]; simp
  clear hz0
  have HX1 : Hid ((andP (wantP sOpen r1) fun _ r => andP (itemsA r) fun l r => (.ok (.mk 1 [z0] 0 0 0 0 l o, r) : PR Cl)) = y) := by have := HX0.out; rw [hn] at this; exact this
  have HP1 := Lib.hid hp
  clear hp hn HX0
  have cj : w1.cell? ⟨c, 1, none⟩ = some (.slice none 0 0) := HB1.out.cell 1
  have fj := HB1.out.frozen 1
  have hcw1 := HB1.out.lt
  obtain ⟨ws, hws⟩ : ∃ ws, ws = w1.setCell ⟨c, 1, none⟩ (.slice (some ⟨w1.heap.size, 0, none⟩) 1 1) := ⟨_, rfl⟩
  have hss : ws.heap.size = w1.heap.size := by rw [hws]; simp [World.setCell]
  have hfs : Fx (fun g => g = c) w1 ws := hws ▸ Fx.set w1 c 1 _
  obtain ⟨w2, hw2⟩ : ∃ w2, w2 = ws.alloc (.cells #[.string (bs z0)] 9) := ⟨_, rfl⟩
  have hba : Below ws.heap.size ws w2 := hw2 ▸ held_alloc (Below.refl _ _)
  have hna := (OwnN.one ws w.heap.size z0 HZ0.out (Nat.le_trans HF1.out.size hfs.size)).slN.mono (D' := fun b => w.heap.size ≤ b ∧ b = w1.heap.size) (fun b hb _ => ⟨hb.1, by have := hb.2; simpa [Value.ownBlock, hss] using this⟩)
  rw [← hw2, hss] at hna
  have HN2 := Lib.hid hna
  have HB2 : Hid (Box w2 c #[.int .u8 ((1 : Nat) : Int), .slice (some ⟨w1.heap.size, 0, none⟩) 1 1, .int .u8 0, .int .i64 0, .int .i64 0, .int .i64 0, .slice none 0 0, .int .i64 o] 43) := by
    have h8 : Box ws c #[.int .u8 ((1 : Nat) : Int), .slice (some ⟨w1.heap.size, 0, none⟩) 1 1, .int .u8 0, .int .i64 0, .int .i64 0, .int .i64 0, .slice none 0 0, .int .i64 o] 43 := by rw [hws]; simpa [zc] using HB1.out.set 1 (.slice (some ⟨w1.heap.size, 0, none⟩) 1 1)
    exact h8.after hba
  have HP2 := Lib.hid ((HP1.out.fx hfs (fun b e => e ▸ hpc)).after hba)
  have HE2 := Lib.hid ((HE1.out.fx hfs (fun b e => hS b (.inr e))).after hba)
  have HF2 := Lib.hid ((HF1.out.trans (hfs.mono (fun b e => .inr e))).below hba)
  have hw12 : w1.heap.size < w2.heap.size := by have := hba.size; rw [hw2]; simp; omega
  have hww1 := HF1.out.size
  clear HB1 HP1 HE1 HF1 hfs hba hna
  go_wp2_with fail
  rw [← hws, ← hw2]
  clear hws hw2 cj fj hss hcw1
  refine (want_c _ p r1 en sOpen HP2.out).mono ?_
  rintro e w3 ⟨hf3, hr⟩
  have HF3 := Lib.hid (HF2.out.trans (hf3.mono (fun b e => .inl e)))
  have HE3 := Lib.hid (HE2.out.fx hf3 (fun b e => hS b (.inl e)))
  have HB3 := Lib.hid (HB2.out.fx hf3 (fun e => by omega))
  have HN3 := Lib.hid (HN2.out.fx hf3 (fun b hb _ e => by have := hb.1; omega))
  have hs3 : w2.heap.size ≤ w3.heap.size := hf3.size
  clear hf3 HF2 HE2 HB2 HP2 HN2
  rcases hn : wantP sOpen r1 with r2 | ⟨z1, r2⟩
  · rw [hn] at hr
    have HX2 : Hid (y = .error r2) := by have := HX1.out; rw [hn] at this; exact this.symm
    have hr : e = _ := hr
    subst hr
    clear hn HX1
    go_wp2_with fail
    rw [HX2.out]
    exact ⟨rfl, HF3.out, rfl⟩
  rw [hn] at hr
  obtain ⟨hp, v, rfl, rfl⟩ := hr
  have hlr2 : r2.length ≤ r1.length := by obtain ⟨e, _⟩ := wantP_len hn; rw [e]; simp
  have HX2 : Hid ((andP (itemsA r2) fun l r => (.ok (.mk 1 [z0] 0 0 0 0 l o, r) : PR Cl)) = y) := by have := HX1.out; rw [hn] at this; exact this
  have HP3 := Lib.hid hp
  clear hp hn HX1
  have hww3 := HF3.out.size
  obtain ⟨base, hbase⟩ : ∃ base, base = w3.heap.size := ⟨_, rfl⟩
  obtain ⟨vn, hvn⟩ : ∃ vn, vn = Value.slice (some ⟨w1.heap.size, 0, none⟩) 1 1 := ⟨_, rfl⟩
  rw [← hvn] at HB3 HN3
  go_wp2_with fail
  go_loopg [] (r2.length + 1) (fun gn wx => ∃ r v0 nl, gn = r.length + 1 ∧ r.length + nl.length ≤ 100000 ∧ w3.heap.size ≤ wx.heap.size ∧ Hid ((andP (itemsA r) fun l r => (.ok (.mk 1 [z0] 0 0 0 0 (nl ++ l) o, r) : PR Cl)) = y) ∧ Hid (PS wx p r en) ∧ Hid (Wds N wx) ∧ Hid (Fx (fun g => g = p ∨ g = c) w wx) ∧ Hid (SlN (fun b => w.heap.size ≤ b ∧ b = w1.heap.size) wx vn [z0]) ∧ Hid (OwnCl (DR base v0) wx base v0 nl) ∧ Hid (Box wx c #[.int .u8 ((1 : Nat) : Int), vn, .int .u8 0, .int .i64 0, .int .i64 0, .int .i64 0, v0, .int .i64 o] 43))
  case atStart => exact ⟨r2, .slice none 0 0, [], rfl, by simp; omega, Nat.le_refl _, HX2.out, HP3.out, HE3.out, HF3.out, HN3.out, OwnCl.nil _ _ _, HB3.out⟩
  case round =>
    obtain ⟨r, v0, nl, rfl, hll, hsz, HX, HP, HE, HF, HN, HO, HB⟩ := hrel
    obtain ⟨q0, cap0, rfl, _, _, _⟩ := HO.out.shape
    go_wp2_with fail
    refine (have_c _ p r en sClose HP.out).mono ?_
    rintro e w4 ⟨rfl, hp4, hf4⟩
    have HP4 := Lib.hid hp4
    have HF4 := Lib.hid (HF.out.trans (hf4.mono (fun b e => .inl e)))
    have HE4 := Lib.hid (HE.out.fx hf4 (fun b e => hS b (.inl e)))
    have HN4 := Lib.hid (HN.out.fx hf4 (fun b hb _ e => by have := hb.1; omega))
    have hcb : c < base := by omega
    have HO4 := Lib.hid (HO.out.fx hf4 (fun b e hb => by have := hb.1; omega) (fun b hb _ e => by have := hb.1; omega))
    have HB4 := Lib.hid (HB.out.fx hf4 (fun e => by omega))
    have hs4 : wr.heap.size ≤ w4.heap.size := hf4.size
    clear hp4 hf4 HP HF HE HO HB HN
    have hX := HX.out
    rw [itemsA_have] at hX
    cases hh : (haveF sClose r).1 with
    | true =>
      rw [hh] at hX
      have HX4 : Hid (y = .ok (.mk 1 [z0] 0 0 0 0 nl o, (haveF sClose r).2)) := by show _ = _; rw [← hX]; simp [andP]
      obtain ⟨tz, htz⟩ : ∃ tz, (haveF sClose r).2 = tz := ⟨_, rfl⟩
      rw [htz] at HX4 HP4
      clear hX hh htz HX
      go_wp2_with fail
      go_end0
      rw [HX4.out]
      refine ⟨HF4.out, HP4.out, _, rfl, rfl, rfl, vn, _, HB4.out, hasC_iff.2 ⟨⟨show 1 < 256 by omega, show 0 < 256 by omega, In64.zero, In64.zero, In64.zero, ho⟩, HN4.out.mono (fun b hb _ => hb.1), HO4.out.slC.mono (fun b hb _ => ?_)⟩⟩
      have hbw : w.heap.size ≤ base := by rw [hbase]; exact hww3
      rcases hb with hb | hb
      · exact Nat.le_trans hbw hb.1
      · exact Nat.le_trans hbw hb.1
    | false =>
      rw [hh] at hX
      rw [haveF_stay hh] at HP4
      clear hh HX
      obtain ⟨x, hx⟩ : ∃ x, itemP r = x := ⟨_, rfl⟩
      have HX := Lib.hid hx
      rw [hx] at hX
      have HY : Hid ((andP x fun cl r => andP (itemsA r) fun l r => (.ok (.mk 1 [z0] 0 0 0 0 (nl ++ cl :: l) o, r) : PR Cl)) = y) := by
        show _ = _
        rw [← hX]
        rcases x with e | ⟨n, r'⟩
        · rfl
        · simp only [andP, Bool.false_eq_true, if_false]
          rcases itemsA r' with e | ⟨l', r''⟩ <;> rfl
      clear hx hX
      obtain ⟨W0, hW0⟩ : ∃ W0, W0 = w4 := ⟨_, rfl⟩
      subst hW0
      have hb0 : base ≤ W0.heap.size := by omega
      have hbp : p < base := by omega
      have hN0 : N ≤ W0.heap.size := by omega
      have hpW : p < W0.heap.size := by omega
      have htl : r.length ≤ 100000 := by omega
      have HLL : Hid (nl.length ≤ 1000000) := by show _ ≤ _; omega
      obtain ⟨us, hown, hL⟩ := HO4.out
      have HL := Lib.hid hL
      have HOWN := Lib.hid hown
      have hul := hL.len
      have hrl := rowsOf_len hul
      have HOB : Hid (∀ b, some b = (Value.slice q0 nl.length cap0).ownBlock → base ≤ b ∧ b < W0.heap.size) := fun b e => hown.lt b e
      have HTN : Hid (∀ b, (b = p ∨ some b = (Value.slice q0 nl.length cap0).ownBlock) → N ≤ b) := fun b e => by
        rcases e with e | e
        · omega
        · have := HOB.out b e; omega
      have HTF : Hid (∀ b, (b = p ∨ some b = (Value.slice q0 nl.length cap0).ownBlock) → (b = p ∨ b = c) ∨ w.heap.size ≤ b) := fun b e => by
        rcases e with e | e
        · exact .inl (.inl e)
        · right; have := HOB.out b e; omega
      clear hown hL hul
      go_wp2_with fail
      refine wp_gj_two (S := SKP2 (S := (fun b => b = p)) (T := (fun b => some b = (Value.slice q0 nl.length cap0).ownBlock)) 9 (fun κ => match κ with | 0 => KP2.eq (.pointer (some ⟨c, 0, none⟩)) | 1 => KP2.eq (.pointer (some ⟨c, 0, none⟩)) | 2 => KP2.eq (.pointer (some ⟨c, 6, none⟩)) | 3 => KP2.eq (.slice q0 nl.length cap0) | 4 => KP2.eq (.pointer (some ⟨p, 0, none⟩)) | 5 => KP2.ev (fun v w => ∃ M, W0.heap.size ≤ M ∧ v = .map (some M) ∧ MapR w M (look itemL)) (fun v w w' hf ⟨M, h1, h2, h3⟩ => ⟨M, h1, h2, h3.fx hf (fun e => by omega)⟩) | 6 => ⟨true, fun v w => ∃ cl, (∃ r, x = .ok (cl, r)) ∧ IsC (fun b => W0.heap.size ≤ b) w v cl, fun v w w' hf ⟨cl, h1, h2⟩ => ⟨cl, h1, h2.fx hf (fun b hb _ e => by omega)⟩, fun _ v w w' hf ⟨cl, h1, h2⟩ => ⟨cl, h1, h2.fx hf (fun b hb _ e => by have := HOB.out b e; omega)⟩⟩ | 7 => KP2.eq (.int .i64 ((nl.length : Nat) : Int)) | 8 => KP2.ev (fun v w => ∃ g, W0.heap.size ≤ g ∧ v = .slice (some ⟨g, 0, none⟩) 1 1 ∧ Box w g #[.int .u8 0, .slice none 0 0, .int .u8 0, .int .i64 0, .int .i64 0, .int .i64 0, .slice none 0 0, .int .i64 0] 43) (fun v w w' hf ⟨g, h1, h2, h3⟩ => ⟨g, h1, h2, h3.fx hf (fun e => by omega)⟩) | _ => KP2.any)) (C := (fun l f w => CB W0 p en 6 9 base 43 8 (.slice q0 nl.length cap0) (rowsOf us nl) c #[.int .u8 ((1 : Nat) : Int), vn, .int .u8 0, .int .i64 0, .int .i64 0, .int .i64 0, .slice q0 nl.length cap0, .int .i64 o] 43 r x l f w ∧ (up l 9 → P9 base us nl [.int .u8 0, .slice none 0 0, .int .u8 0, .int .i64 0, .int .i64 0, .int .i64 0, .slice none 0 0, .int .i64 0] (fun cl => ∃ r, x = .ok (cl, r)) (f 21) (f 24) w))) 10 (by kernel_rfl) (by decide) (by kernel_rfl) (by kernel_rfl) ?_ ?_ (GJ.start ⟨CB.start HP4.out HOWN.out HB4.out, fun u => absurd u (up_none _ _)⟩)
      · intro listed a9 w9 i9 hin hr hj
        have h12 : i9 ∈ List.range 10 := List.mem_range.2 hin
        simp only [List.range, List.range.loop, List.mem_cons, List.not_mem_nil, or_false] at h12
        obtain ⟨hi12, hun, _, _, _⟩ := ready_mem hr
        obtain ⟨f, rfl, hcm, hf⟩ := hj.opened [15, 16, 17, 18, 19, 20, 21, 22, 23, 24, 25, 26, 27] (by kernel_rfl)
        replace hcm : CB W0 p en 6 9 base 43 8 (.slice q0 nl.length cap0) (rowsOf us nl) c #[.int .u8 ((1 : Nat) : Int), vn, .int .u8 0, .int .i64 0, .int .i64 0, .int .i64 0, .slice q0 nl.length cap0, .int .i64 o] 43 r x listed f w9 := hcm.1
        rcases h12 with rfl | rfl | rfl | rfl | rfl | rfl | rfl | rfl | rfl | rfl
        · have hn9 : ¬ up listed 9 := fun h => not_up hun (reach_of_up hj.closed 10 9 0 h (by kernel_rfl))
          refine GJ.op hj (by kernel_rfl) hr rfl [15, 16, 17, 18, 19, 20, 21, 22, 23, 24, 25, 26, 27] (by kernel_rfl) (fun K hK => ?_)
          simp only [Act.put, List.foldl_cons, List.foldl_nil, List.setIfInBounds_toArray, List.set_cons_zero, List.set_cons_succ] at hK ⊢
          clear hj hf
          go_simp
          exact hK _ _ (fun k v _ _ h => h.keep (Fx.refl _ _)) (fun t ht _ => rfl) ⟨hcm.keep (by decide) (by decide) (Below.refl _ _), (fun u => absurd u (fun h => hn9 (up_set h (by decide))))⟩
        · have hn9 : ¬ up listed 9 := fun h => not_up hun (reach_of_up hj.closed 10 9 1 h (by kernel_rfl))
          have e1 : f 15 = .pointer (some ⟨c, 0, none⟩) := hf 0 _ _ rfl rfl (up_dep hr (by kernel_rfl)) (.inl rfl)
          refine GJ.op hj (by kernel_rfl) hr rfl [15, 16, 17, 18, 19, 20, 21, 22, 23, 24, 25, 26, 27] (by kernel_rfl) (fun K hK => ?_)
          simp only [Act.put, List.foldl_cons, List.foldl_nil, List.setIfInBounds_toArray, List.set_cons_zero, List.set_cons_succ] at hK ⊢
          clear hj hf
          rw [e1] at hK ⊢
          clear e1
          go_simp
          exact hK _ _ (fun k v _ _ h => h.keep (Fx.refl _ _)) (fun t ht _ => rfl) ⟨hcm.keep (by decide) (by decide) (Below.refl _ _), (fun u => absurd u (fun h => hn9 (up_set h (by decide))))⟩
        · have hn9 : ¬ up listed 9 := fun h => not_up hun (reach_of_up hj.closed 10 9 2 h (by kernel_rfl))
          have e1 : f 16 = .pointer (some ⟨c, 0, none⟩) := hf 1 _ _ rfl rfl (up_dep hr (by kernel_rfl)) (.inl rfl)
          refine GJ.op hj (by kernel_rfl) hr rfl [15, 16, 17, 18, 19, 20, 21, 22, 23, 24, 25, 26, 27] (by kernel_rfl) (fun K hK => ?_)
          simp only [Act.put, List.foldl_cons, List.foldl_nil, List.setIfInBounds_toArray, List.set_cons_zero, List.set_cons_succ] at hK ⊢
          clear hj hf
          rw [e1] at hK ⊢
          clear e1
          go_simp
          exact hK _ _ (fun k v _ _ h => h.keep (Fx.refl _ _)) (fun t ht _ => rfl) ⟨hcm.keep (by decide) (by decide) (Below.refl _ _), (fun u => absurd u (fun h => hn9 (up_set h (by decide))))⟩
        · have hn9 : ¬ up listed 9 := fun h => not_up hun (reach_of_up hj.closed 10 9 3 h (by kernel_rfl))
          have e1 : f 17 = .pointer (some ⟨c, 6, none⟩) := hf 2 _ _ rfl rfl (up_dep hr (by kernel_rfl)) (.inl rfl)
          have kc : w9.cell? ⟨c, 6, none⟩ = some (.slice q0 nl.length cap0) := hcm.2.2.2.2.cell 6
          have klt := World.block_lt_of_cell? _ _ kc
          simp only at klt
          refine GJ.op hj (by kernel_rfl) hr rfl [15, 16, 17, 18, 19, 20, 21, 22, 23, 24, 25, 26, 27] (by kernel_rfl) (fun K hK => ?_)
          simp only [Act.put, List.foldl_cons, List.foldl_nil, List.setIfInBounds_toArray, List.set_cons_zero, List.set_cons_succ] at hK ⊢
          clear hj hf
          rw [e1] at hK ⊢
          clear e1
          go_simp
          exact hK _ _ (fun k v _ _ h => h.keep (Fx.refl _ _)) (fun t ht _ => rfl) ⟨hcm.keep (by decide) (by decide) (Below.refl _ _), (fun u => absurd u (fun h => hn9 (up_set h (by decide))))⟩
        · have hn9 : ¬ up listed 9 := fun h => not_up hun (reach_of_up hj.closed 10 9 4 h (by kernel_rfl))
          refine GJ.op hj (by kernel_rfl) hr rfl [15, 16, 17, 18, 19, 20, 21, 22, 23, 24, 25, 26, 27] (by kernel_rfl) (fun K hK => ?_)
          simp only [Act.put, List.foldl_cons, List.foldl_nil, List.setIfInBounds_toArray, List.set_cons_zero, List.set_cons_succ] at hK ⊢
          clear hj hf
          go_simp
          exact hK _ _ (fun k v _ _ h => h.keep (Fx.refl _ _)) (fun t ht _ => rfl) ⟨hcm.keep (by decide) (by decide) (Below.refl _ _), (fun u => absurd u (fun h => hn9 (up_set h (by decide))))⟩
        · have hn9 : ¬ up listed 9 := fun h => not_up hun (reach_of_up hj.closed 10 9 5 h (by kernel_rfl))
          refine GJ.op hj (by kernel_rfl) hr rfl [15, 16, 17, 18, 19, 20, 21, 22, 23, 24, 25, 26, 27] (by kernel_rfl) (fun K hK => ?_)
          simp only [Act.put, List.foldl_cons, List.foldl_nil, List.setIfInBounds_toArray, List.set_cons_zero, List.set_cons_succ] at hK ⊢
          clear hj hf
          go_simp
          refine (items_c w9).mono ?_
          rintro e w10 ⟨M, rfl, hM, hm, hb10⟩
          exact hK _ _ (fun k v _ _ h => h.keep (Fx.of_below hb10)) (fun t ht _ => ⟨M, Nat.le_trans hcm.1.size hM, rfl, hm⟩) ⟨hcm.keep (by decide) (by decide) hb10, (fun u => absurd u (fun h => hn9 (up_set h (by decide))))⟩
        · have hn9 : ¬ up listed 9 := fun h => not_up hun (reach_of_up hj.closed 10 9 6 h (by kernel_rfl))
          have e1 : f 19 = .pointer (some ⟨p, 0, none⟩) := hf 4 _ _ rfl rfl (up_dep hr (by kernel_rfl)) (.inl rfl)
          have hnu : ¬ up listed 6 := not_up hun
          have hls := hj.lsize
          obtain ⟨M, hM, e2, hm⟩ : ∃ M, W0.heap.size ≤ M ∧ f 20 = .map (some M) ∧ MapR w9 M (look itemL) := hf 5 _ _ rfl rfl (up_dep hr (by kernel_rfl)) (.inr (.inl hn9))
          refine GJ.op hj (by kernel_rfl) hr rfl [15, 16, 17, 18, 19, 20, 21, 22, 23, 24, 25, 26, 27] (by kernel_rfl) (fun K hK => ?_)
          simp only [Act.put, List.foldl_cons, List.foldl_nil, List.setIfInBounds_toArray, List.set_cons_zero, List.set_cons_succ] at hK ⊢
          clear hj hf
          rw [e1] at hK ⊢
          clear e1
          rw [e2] at hK ⊢
          clear e2
          go_simp
          refine (one_c N _ _ _ (tab_item N) w9 p M r en (hcm.2.1 hnu) hm (fun e => by omega) (Nat.le_trans hN0 hcm.1.size) hNp (HE4.out.fx hcm.1 HTN.out) htl).mono ?_
          rw [← itemP_one, HX.out]
          rintro e w10 ⟨hf10, hr10⟩
          rcases hx10 : x with r' | ⟨cl, r'⟩
          · rw [hx10] at hr10
            have hr10 : e = _ := hr10
            subst hr10
            exact ⟨rfl, HF4.out.new (hcm.1.trans (hf10.mono (fun b e => .inl e))) HTF.out, by rw [← HY.out, hx10]; rfl⟩
          · rw [hx10] at hr10
            obtain ⟨hp10, v, rfl, hv10⟩ := hr10
            exact hK _ _ (fun k v _ _ h => h.keep hf10) (fun _ _ _ => ⟨cl, ⟨r', hx10⟩, hv10.mono (fun b hb _ => Nat.le_trans hcm.1.size hb)⟩) ⟨hcm.read (by rw [hls]; decide) (by decide) hf10 hx10 hp10 (fun e => by omega) hbp, (fun u => absurd u (fun h => hn9 (up_set h (by decide))))⟩
        · have hn9 : ¬ up listed 9 := fun h => not_up hun (reach_of_up hj.closed 10 9 7 h (by kernel_rfl))
          have e1 : f 18 = .slice q0 nl.length cap0 := hf 3 _ _ rfl rfl (up_dep hr (by kernel_rfl)) (.inl rfl)
          refine GJ.op hj (by kernel_rfl) hr rfl [15, 16, 17, 18, 19, 20, 21, 22, 23, 24, 25, 26, 27] (by kernel_rfl) (fun K hK => ?_)
          simp only [Act.put, List.foldl_cons, List.foldl_nil, List.setIfInBounds_toArray, List.set_cons_zero, List.set_cons_succ] at hK ⊢
          clear hj hf
          rw [e1] at hK ⊢
          clear e1
          go_simp
          exact hK _ _ (fun k v _ _ h => h.keep (Fx.refl _ _)) (fun t ht _ => rfl) ⟨hcm.keep (by decide) (by decide) (Below.refl _ _), (fun u => absurd u (fun h => hn9 (up_set h (by decide))))⟩
        · have hn9 : ¬ up listed 9 := fun h => not_up hun (reach_of_up hj.closed 10 9 8 h (by kernel_rfl))
          refine GJ.op hj (by kernel_rfl) hr rfl [15, 16, 17, 18, 19, 20, 21, 22, 23, 24, 25, 26, 27] (by kernel_rfl) (fun K hK => ?_)
          simp only [Act.put, List.foldl_cons, List.foldl_nil, List.setIfInBounds_toArray, List.set_cons_zero, List.set_cons_succ] at hK ⊢
          clear hj hf
          go_simp
          exact hK _ _ (fun k v _ _ h => h.keep (Fx.of_below (held_alloc (Below.refl _ _)))) (fun _ _ _ => ⟨w9.heap.size, hcm.1.size, rfl, Box.new w9 _ _⟩) ⟨hcm.keep (by decide) (by decide) (held_alloc (Below.refl _ _)), (fun u => absurd u (fun h => hn9 (up_set h (by decide))))⟩
        · have e1 : f 18 = .slice q0 nl.length cap0 := hf 3 _ _ rfl rfl (up_dep hr (by kernel_rfl)) (.inl rfl)
          have hn9 : ¬ up listed 9 := not_up hun
          have hls := hj.lsize
          obtain ⟨gb, hgb, e2, hb9⟩ : ∃ g, W0.heap.size ≤ g ∧ f 23 = .slice (some ⟨g, 0, none⟩) 1 1 ∧ Box w9 g #[.int .u8 0, .slice none 0 0, .int .u8 0, .int .i64 0, .int .i64 0, .int .i64 0, .slice none 0 0, .int .i64 0] 43 := hf 8 _ _ rfl rfl (up_dep hr (by kernel_rfl)) (.inr (.inl hn9))
          obtain ⟨cl, hx6, h6⟩ : ∃ cl, (∃ r, x = .ok (cl, r)) ∧ IsC (fun b => W0.heap.size ≤ b) w9 (f 21) cl := hf 6 _ _ rfl rfl (up_dep hr (by kernel_rfl)) (.inl rfl)
          refine GJ.op hj (by kernel_rfl) hr rfl [15, 16, 17, 18, 19, 20, 21, 22, 23, 24, 25, 26, 27] (by kernel_rfl) (fun K hK => ?_)
          simp only [Act.put, List.foldl_cons, List.foldl_nil, List.setIfInBounds_toArray, List.set_cons_zero, List.set_cons_succ] at hK ⊢
          clear hj hf
          rw [e1] at hK ⊢
          clear e1
          rw [e2] at hK ⊢
          clear e2
          have hown := hcm.2.2.2.1 hn9
          have hwsz := hcm.1.size
          refine step_appC ?q3 (.tmp 18) (.tmp 23) 22 ?q4 base 43 8 96 _ Tryz.underlying22 infoC rfl (by decide) (by decide) (.slice q0 nl.length cap0) (rowsOf us nl) [.int .u8 0, .slice none 0 0, .int .u8 0, .int .i64 0, .int .i64 0, .int .i64 0, .slice none 0 0, .int .i64 0] ?q1 hown rfl (by simp [Value.oneCell']) ⟨gb, 0, none⟩ 1 ?q2 hb9.news (by rw [hrl]; exact HLL.out) (Nat.le_trans hb0 hwsz) ?_
          case q1 => rfl
          case q2 => rfl
          case q3 => rfl
          case q4 => rfl
          intro v11 w11 hown11 hf11 hor11
          exact hK _ _ (fun k v hne _ h => h.app hne (by rw [hls]; decide) hf11) (fun _ _ => fun _ => trivial) ⟨hcm.app (by rw [hls]; decide) (by decide) hf11 (fun b e => by have := HOB.out b e; omega), fun _ => P9.mk hx6 h6 HL.out hcm.1 hown11 hf11 hor11 HOB.out hb0 hbp⟩
      · intro listed a9 w10 hu hnu hj
        have p9 : P9 base us nl [.int .u8 0, .slice none 0 0, .int .u8 0, .int .i64 0, .int .i64 0, .int .i64 0, .slice none 0 0, .int .i64 0] (fun cl => ∃ r, x = .ok (cl, r)) (a9.tmps.getD 21 undef) (a9.tmps.getD 24 undef) w10 := hj.com.2 (hu 9 (by omega))
        obtain ⟨cl, vn', vi', g, cap, ⟨r', hx9⟩, e6, e9, hgc, hgm, hgb, hgw, hown, hcl, hl⟩ := p9
        have hcm : CB W0 p en 6 9 base 43 8 (.slice q0 nl.length cap0) (rowsOf us nl) c #[.int .u8 ((1 : Nat) : Int), vn, .int .u8 0, .int .i64 0, .int .i64 0, .int .i64 0, .slice q0 nl.length cap0, .int .i64 o] 43 r x listed (fun t => a9.tmps.getD t undef) w10 := hj.com.1
        obtain ⟨a', r2, hx8, hp⟩ := hcm.2.2.1 (hu 6 (by omega))
        obtain ⟨rfl, rfl⟩ : cl = a' ∧ r' = r2 := by rw [hx9] at hx8; injection hx8 with hx8; injection hx8 with e1 e2; exact ⟨e1, e2⟩
        obtain ⟨qn, cn, rfl, _, _, _⟩ := (hasC_iff.1 hcl).2.1.2.shape
        obtain ⟨qi, ci, rfl, _, _, _⟩ := (hasC_iff.1 hcl).2.2.shape
        rw [e9] at hown
        have HP10 := Lib.hid hp
        have HF10 := Lib.hid hcm.1
        have HB10 := Lib.hid hcm.2.2.2.2
        have HX9 := Lib.hid hx9
        have HCL := Lib.hid hcl
        have HL10 := Lib.hid hl
        have HOW10 := Lib.hid hown
        have hsz10 := hcm.1.size
        refine ⟨fun _ k v _ => (fun κ v => match κ with | 0 => v = .pointer (some ⟨c, 0, none⟩) | 6 => v = .agg (clV cl (.slice qn cl.names.length cn) (.slice qi cl.items.length ci)).toArray | 7 => v = .int .i64 ((nl.length : Nat) : Int) | 9 => v = .slice (some ⟨g, 0, none⟩) (nl.length + 1) cap | 10 => v = .pointer (some ⟨g, nl.length * 8, none⟩) | 12 => v = .pointer (some ⟨c, 0, none⟩) | 13 => v = .pointer (some ⟨c, 6, none⟩) | _ => True) k v, CD w10 11 14 base g cap us nl [.int .u8 0, .slice none 0 0, .int .u8 0, .int .i64 0, .int .i64 0, .int .i64 0, .slice none 0 0, .int .i64 0] cl c #[.int .u8 ((1 : Nat) : Int), vn, .int .u8 0, .int .i64 0, .int .i64 0, .int .i64 0, .slice q0 nl.length cap0, .int .i64 o] #[.int .u8 ((1 : Nat) : Int), vn, .int .u8 0, .int .i64 0, .int .i64 0, .int .i64 0, .slice (some ⟨g, 0, none⟩) (nl.length + 1) cap, .int .i64 o] 43, hj.change (CD.start (hnu 11 (by omega)) (hnu 14 (by omega)) HOW10.out HB10.out) ?_, ?_, ?_⟩
        · intro k o' t ho' ht hk
          have hk10 : k < 10 := Nat.lt_of_not_le fun h => hnu k h hk
          match k, hk10, ho', hk with
          | 0, _, ho', hk => cases ho'; cases ht; exact (hj.got 0 _ _ rfl rfl hk) (.inl rfl)
          | 1, _, ho', hk => trivial
          | 2, _, ho', hk => trivial
          | 3, _, ho', hk => trivial
          | 4, _, ho', hk => trivial
          | 5, _, ho', hk => trivial
          | 6, _, ho', hk => cases ho'; cases ht; exact e6
          | 7, _, ho', hk => cases ho'; cases ht; exact (hj.got 7 _ _ rfl rfl hk) (.inl rfl)
          | 8, _, ho', hk => trivial
          | 9, _, ho', hk => cases ho'; cases ht; exact e9
        · intro listed a9 w9 i9 hin hu hr hj
          have h12 : i9 = 10 ∨ i9 = 11 ∨ i9 = 12 ∨ i9 = 13 ∨ i9 = 14 := by have h := (ready_mem hr).1; change i9 < 15 at h; omega
          obtain ⟨hi12, hun, _, _, _⟩ := ready_mem hr
          obtain ⟨f, rfl, hcm, hf⟩ := hj.opened [15, 16, 17, 18, 19, 20, 21, 22, 23, 24, 25, 26, 27] (by kernel_rfl)
          replace hcm : CD w10 11 14 base g cap us nl [.int .u8 0, .slice none 0 0, .int .u8 0, .int .i64 0, .int .i64 0, .int .i64 0, .slice none 0 0, .int .i64 0] cl c #[.int .u8 ((1 : Nat) : Int), vn, .int .u8 0, .int .i64 0, .int .i64 0, .int .i64 0, .slice q0 nl.length cap0, .int .i64 o] #[.int .u8 ((1 : Nat) : Int), vn, .int .u8 0, .int .i64 0, .int .i64 0, .int .i64 0, .slice (some ⟨g, 0, none⟩) (nl.length + 1) cap, .int .i64 o] 43 listed f w9 := hcm
          rcases h12 with rfl | rfl | rfl | rfl | rfl
          · have e1 : f 24 = .slice (some ⟨g, 0, none⟩) (nl.length + 1) cap := hf 9 _ _ rfl rfl (hu 9 (by omega))
            have e2 : f 22 = .int .i64 ((nl.length : Nat) : Int) := hf 7 _ _ rfl rfl (hu 7 (by omega))
            have q1 : ((nl.length : Nat) : Int) < ((nl.length : Nat) : Int) + 1 := by omega
            have q2 : (0 : Int) ≤ ((nl.length : Nat) : Int) := by omega
            refine GJ.op hj (by kernel_rfl) hr rfl [15, 16, 17, 18, 19, 20, 21, 22, 23, 24, 25, 26, 27] (by kernel_rfl) (fun K hK => ?_)
            simp only [Act.put, List.foldl_cons, List.foldl_nil, List.setIfInBounds_toArray, List.set_cons_zero, List.set_cons_succ] at hK ⊢
            clear hj hf
            rw [e1, e2] at hK ⊢
            clear e1 e2
            go_simp
            exact hK _ _ (fun k v _ _ h => h) (fun t ht => rfl) (hcm.keep (by decide) (by decide))
          · have e1 : f 25 = .pointer (some ⟨g, nl.length * 8, none⟩) := hf 10 _ _ rfl rfl (up_dep hr (by kernel_rfl))
            have e2 : f 21 = .agg (clV cl (.slice qn cl.names.length cn) (.slice qi cl.items.length ci)).toArray := hf 6 _ _ rfl rfl (hu 6 (by omega))
            have hn11 : ¬ up listed 11 := not_up hun
            have hls := hj.lsize
            have hown := hcm.2.1 hn11
            obtain ⟨g2, cap2, eg, _, _, _, _, _, hgf, hgat⟩ := hown.pos (by simp)
            obtain ⟨rfl, rfl⟩ : g = g2 ∧ cap = cap2 := by injection eg with e1 _ e2; injection e1 with e1; injection e1 with e1; exact ⟨e1, e2⟩
            clear eg
            have hz := hgat nl.length (by rw [List.length_append, hrl]; simp)
            rw [row_last hrl] at hz
            have x0 : w9.cell? ⟨g, nl.length * 8, none⟩ = some (.int .u8 0) := hz 0 (by omega)
            have x1 : w9.cell? ⟨g, nl.length * 8 + 1, none⟩ = some (.slice none 0 0) := hz 1 (by omega)
            have x2 : w9.cell? ⟨g, nl.length * 8 + 2, none⟩ = some (.int .u8 0) := hz 2 (by omega)
            have x3 : w9.cell? ⟨g, nl.length * 8 + 3, none⟩ = some (.int .i64 0) := hz 3 (by omega)
            have x4 : w9.cell? ⟨g, nl.length * 8 + 4, none⟩ = some (.int .i64 0) := hz 4 (by omega)
            have x5 : w9.cell? ⟨g, nl.length * 8 + 5, none⟩ = some (.int .i64 0) := hz 5 (by omega)
            have x6 : w9.cell? ⟨g, nl.length * 8 + 6, none⟩ = some (.slice none 0 0) := hz 6 (by omega)
            have x7 : w9.cell? ⟨g, nl.length * 8 + 7, none⟩ = some (.int .i64 0) := hz 7 (by omega)
            have z0 := hgf (nl.length * 8)
            have z1 := hgf (nl.length * 8 + 1)
            have z2 := hgf (nl.length * 8 + 2)
            have z3 := hgf (nl.length * 8 + 3)
            have z4 := hgf (nl.length * 8 + 4)
            have z5 := hgf (nl.length * 8 + 5)
            have z6 := hgf (nl.length * 8 + 6)
            have z7 := hgf (nl.length * 8 + 7)
            clear hgat hz hgf
            refine GJ.op hj (by kernel_rfl) hr rfl [15, 16, 17, 18, 19, 20, 21, 22, 23, 24, 25, 26, 27] (by kernel_rfl) (fun K hK => ?_)
            simp only [Act.put, List.foldl_cons, List.foldl_nil, List.setIfInBounds_toArray, List.set_cons_zero, List.set_cons_succ] at hK ⊢
            clear hj hf
            rw [e1, e2] at hK ⊢
            clear e1 e2
            unfold clV at hK ⊢
            go_simp
            exact hK undef _ (fun k v _ _ h => h) (fun t ht => by cases ht) (hcm.elem hn11 (by rw [hls]; decide) (by decide) HL10.out HCL.out (fun b hb => hb) hcb hgb)
          · have e1 : f 15 = .pointer (some ⟨c, 0, none⟩) := hf 0 _ _ rfl rfl (hu 0 (by omega))
            refine GJ.op hj (by kernel_rfl) hr rfl [15, 16, 17, 18, 19, 20, 21, 22, 23, 24, 25, 26, 27] (by kernel_rfl) (fun K hK => ?_)
            simp only [Act.put, List.foldl_cons, List.foldl_nil, List.setIfInBounds_toArray, List.set_cons_zero, List.set_cons_succ] at hK ⊢
            clear hj hf
            rw [e1] at hK ⊢
            clear e1
            go_simp
            exact hK _ _ (fun k v _ _ h => h) (fun t ht => rfl) (hcm.keep (by decide) (by decide))
          · have e1 : f 26 = .pointer (some ⟨c, 0, none⟩) := hf 12 _ _ rfl rfl (up_dep hr (by kernel_rfl))
            refine GJ.op hj (by kernel_rfl) hr rfl [15, 16, 17, 18, 19, 20, 21, 22, 23, 24, 25, 26, 27] (by kernel_rfl) (fun K hK => ?_)
            simp only [Act.put, List.foldl_cons, List.foldl_nil, List.setIfInBounds_toArray, List.set_cons_zero, List.set_cons_succ] at hK ⊢
            clear hj hf
            rw [e1] at hK ⊢
            clear e1
            go_simp
            exact hK _ _ (fun k v _ _ h => h) (fun t ht => rfl) (hcm.keep (by decide) (by decide))
          · have e1 : f 27 = .pointer (some ⟨c, 6, none⟩) := hf 13 _ _ rfl rfl (up_dep hr (by kernel_rfl))
            have e2 : f 24 = .slice (some ⟨g, 0, none⟩) (nl.length + 1) cap := hf 9 _ _ rfl rfl (hu 9 (by omega))
            have hn14 : ¬ up listed 14 := not_up hun
            have hls := hj.lsize
            have hbx := hcm.2.2.2.1 hn14
            have kc : w9.cell? ⟨c, 6, none⟩ = some (.slice q0 nl.length cap0) := hbx.cell 6
            have kz := hbx.frozen 6
            have klt := hbx.lt
            clear hbx
            refine GJ.op hj (by kernel_rfl) hr rfl [15, 16, 17, 18, 19, 20, 21, 22, 23, 24, 25, 26, 27] (by kernel_rfl) (fun K hK => ?_)
            simp only [Act.put, List.foldl_cons, List.foldl_nil, List.setIfInBounds_toArray, List.set_cons_zero, List.set_cons_succ] at hK ⊢
            clear hj hf
            rw [e1, e2] at hK ⊢
            clear e1 e2
            go_simp
            exact hK undef _ (fun k v _ _ h => h) (fun t ht => by cases ht) (hcm.var hn14 (by rw [hls]; decide) (by decide) (by simp) hcb)
        · intro listed a9 w12 hu hj
          obtain ⟨f, rfl, hcm, hf⟩ := hj.opened [15, 16, 17, 18, 19, 20, 21, 22, 23, 24, 25, 26, 27] (by kernel_rfl)
          replace hcm : CD w10 11 14 base g cap us nl [.int .u8 0, .slice none 0 0, .int .u8 0, .int .i64 0, .int .i64 0, .int .i64 0, .slice none 0 0, .int .i64 0] cl c #[.int .u8 ((1 : Nat) : Int), vn, .int .u8 0, .int .i64 0, .int .i64 0, .int .i64 0, .slice q0 nl.length cap0, .int .i64 o] #[.int .u8 ((1 : Nat) : Int), vn, .int .u8 0, .int .i64 0, .int .i64 0, .int .i64 0, .slice (some ⟨g, 0, none⟩) (nl.length + 1) cap, .int .i64 o] 43 listed f w12 := hcm
          have HO12 := Lib.hid (hcm.2.2.1 (hu 11 (by decide)))
          have HB12 := Lib.hid (hcm.2.2.2.2 (hu 14 (by decide)))
          have HP12 := Lib.hid (HP10.out.fx hcm.1 (fun b e => by rcases e with e | e <;> omega))
          have hfa := HF4.out.new HF10.out HTF.out
          have HF12 := Lib.hid (hfa.new hcm.1 (fun b e => by rcases e with e | e; exact .inr (by omega); exact .inl (.inr e)))
          have HE12 := Lib.hid ((HE4.out.fx HF10.out HTN.out).fx hcm.1 (fun b e => by rcases e with e | e <;> omega))
          have HN12 := Lib.hid ((HN4.out.fx HF10.out (fun b hb _ e => by
            rcases e with e | e
            · have := hb.1; omega
            · have := HOB.out b e; have := hb.2; omega)).fx hcm.1 (fun b hb _ e => by have := hb.1; have := hb.2; rcases e with e | e <;> omega))
          have hs12 := hcm.1.size
          clear hfa hcm hf hj hu
          simp only [List.foldl_cons, List.foldl_nil, List.setIfInBounds_toArray, List.set_cons_zero, List.set_cons_succ]
          generalize f 15 = g15
          generalize f 16 = g16
          generalize f 17 = g17
          generalize f 18 = g18
          generalize f 19 = g19
          generalize f 20 = g20
          generalize f 21 = g21
          generalize f 22 = g22
          generalize f 23 = g23
          generalize f 24 = g24
          generalize f 25 = g25
          generalize f 26 = g26
          generalize f 27 = g27
          clear f
          have hlr3 : r'.length + 1 ≤ r.length := by have := itemP_len (HX.out.trans HX9.out); omega
          have HY12 : Hid ((andP (itemsA r') fun l r => (.ok (.mk 1 [z0] 0 0 0 0 ((nl ++ [cl]) ++ l) o, r) : PR Cl)) = y) := by
            show _ = _
            rw [← HY.out, HX9.out]
            simp [andP]
          have hll2 : (nl ++ [cl]).length = nl.length + 1 := by simp
          go_wp2_with fail
          go_roundg (r'.length + 1)
          case measure => omega
          case rel => exact ⟨r', _, nl ++ [cl], rfl, by rw [hll2]; omega, by omega, HY12.out, HP12.out, HE12.out, HF12.out, HN12.out, HO12.out, HB12.out⟩
end Go.Proofs.YtganlldidjbpiaaGreatDoor

namespace Go.Proofs.YtganlldidjbpiaaGreatDoor
open Go.RowKit Go.Shelf

theorem box_drew {w : World} {b : Nat} {cs : Array Value} {t : TypeId} (h : Box w b cs t) : Box w.drew b cs t := h
theorem run_ours (w : World) (o : Int) : Sem.run Tryz.prog (Instr.typeAssert (.iface 49 (.agg #[.int .i64 o])) 20 49 true) w = .ok (.tuple #[.agg #[.int .i64 o], .bool true]) w := by kernel_rfl
attribute [local go_sem ↓] run_ours
theorem text1_idle (w : World) (pa pb pc : Nat) : CallsD Tryz.prog 37 #[.pointer (some ⟨pa, 0, none⟩), .pointer (some ⟨pb, 0, none⟩), .pointer (some ⟨pc, 0, none⟩)] .returning w fun e u' w' => e = .returned (.tuple #[]) ∧ u' = .returning ∧ w' = w := by
  refine callsD_of_wpS Tryz.func37 rfl fun c₀ cs hu => ?_
  apply wpS_seq
  apply wpS_region
  simp [wpOpsS, go_sem, recoverD, hu, Tryz.ntmps37, Exit.thenS]
  refine wpS_of_wp ?_
  simp only [Array.replicate, List.replicate, List.setIfInBounds_toArray, List.set_cons_succ, List.set_cons_zero, List.append_toArray, List.cons_append, List.nil_append]
  go_wp2_with fail
  exact ⟨rfl, .returning, by rw [← hu], .tuple #[], by simp [results, Tryz.results37, go_sem], rfl, rfl, rfl⟩
set_option maxRecDepth 100000 in
set_option maxHeartbeats 4000000 in
theorem text1_panic (w : World) (pa pb pc : Nat) (o : Int) (older : List PanicEntry) (v0 : Value) (q0 : Option Addr) (n0 c0 : Nat) (b0 : Bool) (o0 : Int) (ha : Box w pa #[.slice q0 n0 c0] 22) (hb : Box w pb #[.int .i64 o0] 49) (hc : Box w pc #[.bool b0] 4) (hab : pa < pb) (hbc : pb < pc) :
    CallsD Tryz.prog 37 #[.pointer (some ⟨pa, 0, none⟩), .pointer (some ⟨pb, 0, none⟩), .pointer (some ⟨pc, 0, none⟩)] (.panicking (failE o :: older)) w fun e u' w' => e = .returned (.tuple #[]) ∧ u' = .panicking ({ (failE o) with recovered := true } :: older) ∧
      Box w' pa #[.slice none 0 0] 22 ∧ Box w' pb #[.int .i64 o] 49 ∧ Box w' pc #[.bool false] 4 ∧ Fx (fun b => b = pa ∨ b = pb ∨ b = pc) w w' := by
  refine callsD_of_wpS Tryz.func37 rfl fun c₀ cs hu => ?_
  unfold failE at hu
  have HA := Lib.hid ha
  have HB := Lib.hid hb
  have HC := Lib.hid hc
  have a0 : w.cell? ⟨pa, 0, none⟩ = some (.slice q0 n0 c0) := ha.cell 0
  have a1 : w.cell? ⟨pb, 0, none⟩ = some (.int .i64 o0) := hb.cell 0
  have a2 : w.cell? ⟨pc, 0, none⟩ = some (.bool b0) := hc.cell 0
  have z0 := ha.frozen 0
  have z1 := hb.frozen 0
  have z2 := hc.frozen 0
  have l0 := ha.lt
  have l1 := hb.lt
  have l2 := hc.lt
  clear ha hb hc
  apply wpS_seq
  apply wpS_region
  simp [wpOpsS, go_sem, recoverD, hu, Tryz.ntmps37, Exit.thenS]
  refine wpS_of_wp ?_
  simp only [Array.replicate, List.replicate, List.setIfInBounds_toArray, List.set_cons_succ, List.set_cons_zero, List.append_toArray, List.cons_append, List.nil_append]
  go_wp2_with fail
  go_region_with fail
  all_goals go_wp2_with fail
  all_goals refine ⟨rfl, _, rfl, .tuple #[], by simp [results, Tryz.results37, go_sem], rfl, rfl, ?_, ?_, ?_, ?_⟩
  all_goals first
    | exact box_drew ((by simpa using (((HA.out.set 0 (.slice none 0 0)).far (p := ⟨pb, 0, none⟩) (by simp; omega) (.int .i64 o)).far (p := ⟨pc, 0, none⟩) (by simp; omega) (.bool false)).alloc _))
    | exact box_drew ((by simpa using (((HB.out.far (p := ⟨pa, 0, none⟩) (by simp; omega) (.slice none 0 0)).set 0 (.int .i64 o)).far (p := ⟨pc, 0, none⟩) (by simp; omega) (.bool false)).alloc _))
    | exact box_drew ((by simpa using (((HC.out.far (p := ⟨pa, 0, none⟩) (by simp; omega) (.slice none 0 0)).far (p := ⟨pb, 0, none⟩) (by simp; omega) (.int .i64 o)).set 0 (.bool false)).alloc _))
    | exact (((((Fx.set w pa 0 (.slice none 0 0)).mono (fun b e => .inl e)).trans ((Fx.set _ pb 0 (.int .i64 o)).mono (fun b e => .inr (.inl e)))).trans ((Fx.set _ pc 0 (.bool false)).mono (fun b e => .inr (.inr e)))).alloc _).drew
end Go.Proofs.YtganlldidjbpiaaGreatDoor
