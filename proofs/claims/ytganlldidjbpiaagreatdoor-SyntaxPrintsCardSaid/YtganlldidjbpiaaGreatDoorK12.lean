/- Walks of package syntax: text.
   (As XRng2, over the memory words of Lexis.) A range over a function, in general: after r rounds memory is as a relation J r says; the body may write memory. One law for the caller. -/
import Derived.Test.YtganlldidjbpiaaGreatDoorK11
import Derived.RangeFuncNested
import Derived.RangeFuncBound
import Derived.RangeFuncCalls
import Derived.RangeFuncLeaves
import Derived.Shelf.Abstract
import Derived.Test.YtganlldidjbpiaaGreatDoorK02
set_option linter.unusedVariables false
namespace Go.Proofs.YtganlldidjbpiaaGreatDoor
open Go.RowKit Go.Shelf

theorem rdr_service (N : Nat) : RdrC N 79 1 (bodyT 1) := fun w p c ts en o hp hb hpc hN hNp he hl ho => service_c N w p c ts en o hp hb hpc hN hNp he hl ho
set_option maxRecDepth 100000 in
theorem tab_top (N : Nat) : Tab N (look topL) topK bodyT := by
  intro s
  by_cases h1 : s = sService
  · subst h1; exact .inr ⟨1, _, rfl, rfl, by omega, by omega, rdr_service N, enters_of Tryz.func79 (by kernel_rfl) rfl⟩
  by_cases h2 : s = sWindow
  · subst h2; exact .inr ⟨2, _, rfl, rfl, by omega, by omega, rdr_window N, enters_of Tryz.func80 (by kernel_rfl) rfl⟩
  by_cases h3 : s = sApprove
  · subst h3; exact .inr ⟨3, _, rfl, rfl, by omega, by omega, rdr_area N, enters_of Tryz.func81 (by kernel_rfl) rfl⟩
  by_cases h4 : s = sBlast
  · subst h4; exact .inr ⟨4, _, rfl, rfl, by omega, by omega, rdr_amount N 4 (by omega), enters_of Tryz.func82 (by kernel_rfl) rfl⟩
  by_cases h5 : s = sCap
  · subst h5; exact .inr ⟨5, _, rfl, rfl, by omega, by omega, rdr_cap N, enters_of Tryz.func83 (by kernel_rfl) rfl⟩
  · left
    unfold topL topK
    simp only [look, if_neg h1, if_neg h2, if_neg h3, if_neg h4, if_neg h5]
    constructor <;> first | trivial | rfl
/-- What text answers. -/
def TextR (w : World) (p : Nat) (en : Int) (x : PR (List Cl)) (e : Ending) (w' : World) : Prop := Fx (fun b => b = p) w w' ∧ ∃ v o b, e = .returned (.tuple #[v, .agg #[.int .i64 o], .bool b]) ∧ match x with
  | .error r => o = offE en r ∧ b = false
  | .ok (cs, _) => SlC (fun b => w.heap.size ≤ b) w' v cs ∧ b = true
set_option maxRecDepth 100000 in
set_option maxHeartbeats 4000000 in
theorem text_c (N : Nat) (w : World) (p : Nat) (ts : List Tok) (en : Int) (h : PS w p ts en) (hN : N ≤ w.heap.size) (hNp : N ≤ p) (he : Wds N w) (hlen : ts.length ≤ 100000) :
    Calls Tryz.prog 23 #[.pointer (some ⟨p, 0, none⟩)] w (TextR w p en (allP ts)) := by
  have hpw := h.lt
  have hmf := run_mkf
  obtain ⟨y, hy⟩ : ∃ y, allP ts = y := ⟨_, rfl⟩
  rw [hy]
  have HX0 : Hid ((andP (allP ts) fun l r => (.ok ([] ++ l, r) : PR _)) = y) := by
    show _ = _
    rw [← hy]
    rcases allP ts with r | ⟨a, r⟩ <;> rfl
  clear hy
  obtain ⟨O, hO⟩ : ∃ O, O = w.heap.size := ⟨_, rfl⟩
  obtain ⟨wa, hwa⟩ : ∃ wa, wa = w.alloc (.cells #[.slice none 0 0] 22) := ⟨_, rfl⟩
  have hba : Below w.heap.size w wa := hwa ▸ held_alloc (Below.refl _ w)
  have hsa : wa.heap.size = O + 1 := by rw [hwa, hO]; simp
  have b0 : Box wa O #[.slice none 0 0] 22 := by rw [hO]; exact hwa ▸ Box.new w _ _
  obtain ⟨wb, hwb⟩ : ∃ wb, wb = wa.alloc (.cells #[.int .i64 0] 49) := ⟨_, rfl⟩
  have hbb : Below wa.heap.size wa wb := hwb ▸ held_alloc (Below.refl _ wa)
  have hsb : wb.heap.size = O + 1 + 1 := by rw [hwb]; simp [hsa]
  have b1 : Box wb (O + 1) #[.int .i64 0] 49 := by rw [← hsa]; exact hwb ▸ Box.new wa _ _
  obtain ⟨w1, hw1⟩ : ∃ w1, w1 = wb.alloc (.cells #[.bool false] 4) := ⟨_, rfl⟩
  have hbc : Below wb.heap.size wb w1 := hw1 ▸ held_alloc (Below.refl _ wb)
  have hs1 : w1.heap.size = O + 3 := by rw [hw1]; simp [hsb]
  have b2 : Box w1 (O + 1 + 1) #[.bool false] 4 := by rw [← hsb]; exact hw1 ▸ Box.new wb _ _
  have hb1 : Below w.heap.size w w1 := (hba.trans (hbb.mono (by omega))).trans (hbc.mono (by omega))
  have HB1 : Hid (Box w1 O #[.slice none 0 0] 22) := (b0.after hbb).after hbc
  have HB11 := Lib.hid (b1.after hbc)
  have HB21 := Lib.hid b2
  have HP1 := Lib.hid (h.after hb1)
  have HE1 := Lib.hid (he.after hb1)
  have HF1 : Hid (Fx (fun b => b = p) w w1) := Fx.of_below hb1
  obtain ⟨base, hbase⟩ : ∃ base, base = w1.heap.size := ⟨_, rfl⟩
  have hO1 : O ≤ w.heap.size := by omega
  have hO2 : w.heap.size ≤ O := by omega
  have hbs1 : base ≤ O + 3 := by omega
  have hbs2 : O + 3 ≤ base := by omega
  have hbw1 : base ≤ w1.heap.size := by omega
  clear hba hbb hbc b0 b1 b2 hb1 h he hsa hsb hs1
  go_enter_defers Tryz.func23, Tryz.ntmps23
  go_upto_region 1 with fail
  rw [← hwa, ← hwb, ← hw1]
  simp only [← hO]
  clear hwa hwb hw1 hO hbase
  go_wp2_with fail
  go_loopg [] ts.length (fun gn wx => ∃ r v0 nl, gn = r.length ∧ r.length + nl.length ≤ 100000 ∧ base ≤ wx.heap.size ∧ Hid ((andP (allP r) fun l r => (.ok (nl ++ l, r) : PR _)) = y) ∧ Hid (PS wx p r en) ∧ Hid (Wds N wx) ∧ Hid (Fx (fun g => g = p) w wx) ∧ Hid (Box wx (O + 1) #[.int .i64 0] 49) ∧ Hid (Box wx (O + 1 + 1) #[.bool false] 4) ∧ Hid (OwnCl (DR base v0) wx base v0 nl) ∧ Hid (Box wx O #[v0] 22))
  case atStart => exact ⟨ts, .slice none 0 0, [], rfl, by simp; omega, hbw1, HX0.out, HP1.out, HE1.out, HF1.out, HB11.out, HB21.out, OwnCl.nil _ _ _, HB1.out⟩
  case round =>
    obtain ⟨r, v0, nl, rfl, hll, hsz, HXX, HP, HE, HF, HB1, HB2, HO, HB⟩ := hrel
    obtain ⟨q0, cap0, rfl, _, _, _⟩ := HO.out.shape
    cases r with
    | nil =>
      obtain ⟨qa, ca, hbp, _⟩ := HP.out.nil
      have c0 : wr.cell? ⟨p, 0, none⟩ = some (.slice qa 0 ca) := hbp.cell 0
      have hX := HXX.out
      rw [allP_nil] at hX
      have HX4 : Hid (y = .ok (nl, [])) := by show _ = _; rw [← hX]; simp [andP]
      have k0 : wr.cell? ⟨O, 0, none⟩ = some (.slice q0 nl.length cap0) := HB.out.cell 0
      have k1 : wr.cell? ⟨O + 1, 0, none⟩ = some (.int .i64 0) := HB1.out.cell 0
      have k2 : wr.cell? ⟨O + 1 + 1, 0, none⟩ = some (.bool false) := HB2.out.cell 0
      have z0 := HB.out.frozen 0
      have z1 := HB1.out.frozen 0
      have z2 := HB2.out.frozen 0
      have l0 := HB.out.lt
      have l1 := HB1.out.lt
      have l2 := HB2.out.lt
      clear hbp hX
      have hf3 : Fx (fun b => b = O ∨ b = O + 1 ∨ b = O + 1 + 1) wr (((wr.setCell ⟨O, 0, none⟩ (.slice q0 nl.length cap0)).setCell ⟨O + 1, 0, none⟩ (.int .i64 0)).setCell ⟨O + 1 + 1, 0, none⟩ (.bool true)) :=
        (((Fx.set wr O 0 _).mono (fun b e => .inl e)).trans ((Fx.set _ (O + 1) 0 _).mono (fun b e => .inr (.inl e)))).trans ((Fx.set _ (O + 1 + 1) 0 _).mono (fun b e => .inr (.inr e)))
      have bb0 : Box (((wr.setCell ⟨O, 0, none⟩ (.slice q0 nl.length cap0)).setCell ⟨O + 1, 0, none⟩ (.int .i64 0)).setCell ⟨O + 1 + 1, 0, none⟩ (.bool true)) O #[.slice q0 nl.length cap0] 22 := by
        simpa using ((HB.out.set 0 (.slice q0 nl.length cap0)).far (p := ⟨O + 1, 0, none⟩) (by simp) (.int .i64 0)).far (p := ⟨O + 1 + 1, 0, none⟩) (by simp; omega) (.bool true)
      have bb1 : Box (((wr.setCell ⟨O, 0, none⟩ (.slice q0 nl.length cap0)).setCell ⟨O + 1, 0, none⟩ (.int .i64 0)).setCell ⟨O + 1 + 1, 0, none⟩ (.bool true)) (O + 1) #[.int .i64 0] 49 := by
        simpa using ((HB1.out.far (p := ⟨O, 0, none⟩) (by simp) (.slice q0 nl.length cap0)).set 0 (.int .i64 0)).far (p := ⟨O + 1 + 1, 0, none⟩) (by simp) (.bool true)
      have bb2 : Box (((wr.setCell ⟨O, 0, none⟩ (.slice q0 nl.length cap0)).setCell ⟨O + 1, 0, none⟩ (.int .i64 0)).setCell ⟨O + 1 + 1, 0, none⟩ (.bool true)) (O + 1 + 1) #[.bool true] 4 := by
        simpa using ((HB2.out.far (p := ⟨O, 0, none⟩) (by simp; omega) (.slice q0 nl.length cap0)).far (p := ⟨O + 1, 0, none⟩) (by simp) (.int .i64 0)).set 0 (.bool true)
      obtain ⟨wz, hwz⟩ : ∃ wz, wz = (((wr.setCell ⟨O, 0, none⟩ (.slice q0 nl.length cap0)).setCell ⟨O + 1, 0, none⟩ (.int .i64 0)).setCell ⟨O + 1 + 1, 0, none⟩ (.bool true)) := ⟨_, rfl⟩
      rw [← hwz] at hf3 bb0 bb1 bb2
      have HO3 := Lib.hid (HO.out.fx hf3 (fun b e hb => by have := hb.1; omega) (fun b hb _ e => by have := hb.1; omega))
      have HF3 := Lib.hid (HF.out.new hf3 (fun b e => .inr (by omega)))
      have BB0 := Lib.hid bb0
      have BB1 := Lib.hid bb1
      have BB2 := Lib.hid bb2
      clear hf3 bb0 bb1 bb2
      go_wp2_with fail
      rw [← hwz]
      clear hwz k0 k1 k2 z0 z1 z2 l0 l1 l2
      refine leaves_cons (f := 37) (args := #[.pointer (some ⟨O, 0, none⟩), .pointer (some ⟨O + 1, 0, none⟩), .pointer (some ⟨O + 1 + 1, 0, none⟩)]) (by simp) (by simp [go_sem]) ?_
      refine (text1_idle _ O (O + 1) (O + 1 + 1)).mono ?_
      rintro e u' w11 ⟨rfl, rfl, rfl⟩
      have m0 : w11.cell? ⟨O, 0, none⟩ = some (.slice q0 nl.length cap0) := BB0.out.cell 0
      have m1 : w11.cell? ⟨O + 1, 0, none⟩ = some (.int .i64 0) := BB1.out.cell 0
      have m2 : w11.cell? ⟨O + 1 + 1, 0, none⟩ = some (.bool true) := BB2.out.cell 0
      simp [Leaves, settle, results, Tryz.results23, go_sem, m0, m1, m2]
      rw [HX4.out]
      refine ⟨HF3.out, _, _, _, rfl, HO3.out.slC.mono (fun b hb _ => ?_), rfl⟩
      rcases hb with hb | hb
      · have := hb.1; omega
      · have := hb.1; omega
    | cons t r0 =>
      obtain ⟨r, hrr⟩ : ∃ r, t :: r0 = r := ⟨_, rfl⟩
      obtain ⟨bq, oq, cq, hbp, hc1, hc2, _⟩ := HP.out.cons
      have c0 : wr.cell? ⟨p, 0, none⟩ = some (.slice (some ⟨bq, oq, none⟩) (r0.length + 1) cq) := hbp.cell 0
      have l0 : (0 : Int) < ((r0.length + 1 : Nat) : Int) := by omega
      have hX := HXX.out
      rw [allP_cons] at hX
      rw [hrr] at hX HP
      have hrl0 : r.length = r0.length + 1 := by rw [← hrr]; rfl
      obtain ⟨x, hx⟩ : ∃ x, topP r = x := ⟨_, rfl⟩
      have HX := Lib.hid hx
      rw [hx] at hX
      have HY : Hid ((andP x fun cl r => andP (allP r) fun l r => (.ok (nl ++ cl :: l, r) : PR _)) = y) := by
        show _ = _
        rw [← hX]
        rcases x with e | ⟨n, r'⟩
        · rfl
        · simp only [andP]
          rcases allP r' with e | ⟨l', r''⟩ <;> rfl
      rw [List.length_cons] at hll
      clear hx hX hbp HXX hrr
      obtain ⟨W0, hW0⟩ : ∃ W0, W0 = wr := ⟨_, rfl⟩
      subst hW0
      have hb0 : base ≤ W0.heap.size := hsz
      have hbp : p < base := by omega
      have hOb : O < base := by omega
      have hN0 : N ≤ W0.heap.size := by omega
      have hpW : p < W0.heap.size := by omega
      have htl : r.length ≤ 100000 := by omega
      have HLL : Hid (nl.length ≤ 1000000) := by show _ ≤ _; omega
      obtain ⟨us, hown, hL⟩ := HO.out
      have HL := Lib.hid hL
      have HOWN := Lib.hid hown
      have hul := hL.len
      have hrl := rowsOf_len hul
      have HOB : Hid (∀ b, some b = (Value.slice q0 nl.length cap0).ownBlock → base ≤ b ∧ b < W0.heap.size) := fun b e => hown.lt b e
      have HTN : Hid (∀ b, (b = p ∨ some b = (Value.slice q0 nl.length cap0).ownBlock) → N ≤ b) := fun b e => by
        rcases e with e | e
        · omega
        · have := HOB.out b e; omega
      have HTF : Hid (∀ b, (b = p ∨ some b = (Value.slice q0 nl.length cap0).ownBlock) → b = p ∨ w.heap.size ≤ b) := fun b e => by
        rcases e with e | e
        · exact .inl e
        · right; have := HOB.out b e; omega
      have HNO : Hid (¬ (O + 1 = p ∨ some (O + 1) = (Value.slice q0 nl.length cap0).ownBlock)) := fun e => by
        rcases e with e | e
        · omega
        · have := HOB.out _ e; omega
      have HNO2 : Hid (¬ (O + 1 + 1 = p ∨ some (O + 1 + 1) = (Value.slice q0 nl.length cap0).ownBlock)) := fun e => by
        rcases e with e | e
        · omega
        · have := HOB.out _ e; omega
      clear hown hL hul
      go_wp2_with fail
      refine wp_gj_two (S := SKP2 (S := (fun b => b = p)) (T := (fun b => some b = (Value.slice q0 nl.length cap0).ownBlock)) 6 (fun κ => match κ with | 0 => KP2.eq (.slice q0 nl.length cap0) | 1 => KP2.eq (.pointer (some ⟨p, 0, none⟩)) | 2 => KP2.ev (fun v w => ∃ M, W0.heap.size ≤ M ∧ v = .map (some M) ∧ MapR w M (look topL)) (fun v w w' hf ⟨M, h1, h2, h3⟩ => ⟨M, h1, h2, h3.fx hf (fun e => by omega)⟩) | 3 => ⟨true, fun v w => ∃ cl, (∃ r, x = .ok (cl, r)) ∧ IsC (fun b => W0.heap.size ≤ b) w v cl, fun v w w' hf ⟨cl, h1, h2⟩ => ⟨cl, h1, h2.fx hf (fun b hb _ e => by omega)⟩, fun _ v w w' hf ⟨cl, h1, h2⟩ => ⟨cl, h1, h2.fx hf (fun b hb _ e => by have := HOB.out b e; omega)⟩⟩ | 4 => KP2.eq (.int .i64 ((nl.length : Nat) : Int)) | 5 => KP2.ev (fun v w => ∃ g, W0.heap.size ≤ g ∧ v = .slice (some ⟨g, 0, none⟩) 1 1 ∧ Box w g #[.int .u8 0, .slice none 0 0, .int .u8 0, .int .i64 0, .int .i64 0, .int .i64 0, .slice none 0 0, .int .i64 0] 43) (fun v w w' hf ⟨g, h1, h2, h3⟩ => ⟨g, h1, h2, h3.fx hf (fun e => by omega)⟩) | _ => KP2.any)) (C := (fun l f w => CB W0 p en 3 6 base 43 8 (.slice q0 nl.length cap0) (rowsOf us nl) O #[.slice q0 nl.length cap0] 22 r x l f w ∧ (up l 6 → P9 base us nl [.int .u8 0, .slice none 0 0, .int .u8 0, .int .i64 0, .int .i64 0, .int .i64 0, .slice none 0 0, .int .i64 0] (fun cl => ∃ r, x = .ok (cl, r)) (f 15) (f 18) w))) 7 (by kernel_rfl) (by decide) (by kernel_rfl) (by kernel_rfl) ?_ ?_ (GJ.start ⟨CB.start HP.out HOWN.out HB.out, fun u => absurd u (up_none _ _)⟩)
      · intro listed a9 w9 i9 hin hr hj
        have h12 : i9 ∈ List.range 7 := List.mem_range.2 hin
        simp only [List.range, List.range.loop, List.mem_cons, List.not_mem_nil, or_false] at h12
        obtain ⟨hi12, hun, _, _, _⟩ := ready_mem hr
        obtain ⟨f, rfl, hcm, hf⟩ := hj.opened [12, 13, 14, 15, 16, 17, 18, 19] (by kernel_rfl)
        replace hcm : CB W0 p en 3 6 base 43 8 (.slice q0 nl.length cap0) (rowsOf us nl) O #[.slice q0 nl.length cap0] 22 r x listed f w9 := hcm.1
        rcases h12 with rfl | rfl | rfl | rfl | rfl | rfl | rfl
        · have hn9 : ¬ up listed 6 := fun h => not_up hun (reach_of_up hj.closed 10 6 0 h (by kernel_rfl))
          have kc : w9.cell? ⟨O, 0, none⟩ = some (.slice q0 nl.length cap0) := hcm.2.2.2.2.cell 0
          have klt := World.block_lt_of_cell? _ _ kc
          simp only at klt
          refine GJ.op hj (by kernel_rfl) hr rfl [12, 13, 14, 15, 16, 17, 18, 19] (by kernel_rfl) (fun K hK => ?_)
          simp only [Act.put, List.foldl_cons, List.foldl_nil, List.setIfInBounds_toArray, List.set_cons_zero, List.set_cons_succ] at hK ⊢
          clear hj hf
          go_simp
          exact hK _ _ (fun k v _ _ h => h.keep (Fx.refl _ _)) (fun t ht _ => rfl) ⟨hcm.keep (by decide) (by decide) (Below.refl _ _), (fun u => absurd u (fun h => hn9 (up_set h (by decide))))⟩
        · have hn9 : ¬ up listed 6 := fun h => not_up hun (reach_of_up hj.closed 10 6 1 h (by kernel_rfl))
          refine GJ.op hj (by kernel_rfl) hr rfl [12, 13, 14, 15, 16, 17, 18, 19] (by kernel_rfl) (fun K hK => ?_)
          simp only [Act.put, List.foldl_cons, List.foldl_nil, List.setIfInBounds_toArray, List.set_cons_zero, List.set_cons_succ] at hK ⊢
          clear hj hf
          go_simp
          exact hK _ _ (fun k v _ _ h => h.keep (Fx.refl _ _)) (fun t ht _ => rfl) ⟨hcm.keep (by decide) (by decide) (Below.refl _ _), (fun u => absurd u (fun h => hn9 (up_set h (by decide))))⟩
        · have hn9 : ¬ up listed 6 := fun h => not_up hun (reach_of_up hj.closed 10 6 2 h (by kernel_rfl))
          refine GJ.op hj (by kernel_rfl) hr rfl [12, 13, 14, 15, 16, 17, 18, 19] (by kernel_rfl) (fun K hK => ?_)
          simp only [Act.put, List.foldl_cons, List.foldl_nil, List.setIfInBounds_toArray, List.set_cons_zero, List.set_cons_succ] at hK ⊢
          clear hj hf
          go_simp
          refine (clauses_c w9).mono ?_
          rintro e w10 ⟨M, rfl, hM, hm, hb10⟩
          exact hK _ _ (fun k v _ _ h => h.keep (Fx.of_below hb10)) (fun t ht _ => ⟨M, Nat.le_trans hcm.1.size hM, rfl, hm⟩) ⟨hcm.keep (by decide) (by decide) hb10, (fun u => absurd u (fun h => hn9 (up_set h (by decide))))⟩
        · have hn9 : ¬ up listed 6 := fun h => not_up hun (reach_of_up hj.closed 10 6 3 h (by kernel_rfl))
          have e1 : f 13 = .pointer (some ⟨p, 0, none⟩) := hf 1 _ _ rfl rfl (up_dep hr (by kernel_rfl)) (.inl rfl)
          have hnu : ¬ up listed 3 := not_up hun
          have hls := hj.lsize
          obtain ⟨M, hM, e2, hm⟩ : ∃ M, W0.heap.size ≤ M ∧ f 14 = .map (some M) ∧ MapR w9 M (look topL) := hf 2 _ _ rfl rfl (up_dep hr (by kernel_rfl)) (.inr (.inl hn9))
          refine GJ.op hj (by kernel_rfl) hr rfl [12, 13, 14, 15, 16, 17, 18, 19] (by kernel_rfl) (fun K hK => ?_)
          simp only [Act.put, List.foldl_cons, List.foldl_nil, List.setIfInBounds_toArray, List.set_cons_zero, List.set_cons_succ] at hK ⊢
          clear hj hf
          rw [e1] at hK ⊢
          clear e1
          rw [e2] at hK ⊢
          clear e2
          go_simp
          refine (one_c N _ _ _ (tab_top N) w9 p M r en (hcm.2.1 hnu) hm (fun e => by omega) (Nat.le_trans hN0 hcm.1.size) hNp (HE.out.fx hcm.1 HTN.out) htl).mono ?_
          rw [← topP_one, HX.out]
          rintro e w10 ⟨hf10, hr10⟩
          rcases hx10 : x with r' | ⟨cl, r'⟩
          · rw [hx10] at hr10
            have hr10 : e = _ := hr10
            subst hr10
            have hall := hcm.1.trans (hf10.mono (fun b e => .inl e))
            have hb10 := hcm.2.2.2.2.fx hf10 (fun e => by omega)
            have hc10 := HB1.out.fx hall HNO.out
            have hd10 := HB2.out.fx hall HNO2.out
            have HF11 := Lib.hid (HF.out.new hall HTF.out)
            have HR11 : Hid (y = .error r') := by show _ = _; rw [← HY.out, hx10]; rfl
            clear hK
            refine leaves_cons (f := 37) (args := #[.pointer (some ⟨O, 0, none⟩), .pointer (some ⟨O + 1, 0, none⟩), .pointer (some ⟨O + 1 + 1, 0, none⟩)]) (by simp) (by simp [go_sem]) ?_
            refine (text1_panic w10 O (O + 1) (O + 1 + 1) _ [] (.slice q0 nl.length cap0) q0 nl.length cap0 false 0 hb10 hc10 hd10 (by omega) (by omega)).mono ?_
            rintro e u' w11 ⟨rfl, rfl, ha11, hb11, hc11, hf11⟩
            have HF12 := Lib.hid (HF11.out.new hf11 (fun b e => .inr (by omega)))
            have k0 : w11.cell? ⟨O, 0, none⟩ = some (.slice none 0 0) := ha11.cell 0
            have k1 : w11.cell? ⟨O + 1, 0, none⟩ = some (.int .i64 (offE en r')) := hb11.cell 0
            have k2 : w11.cell? ⟨O + 1 + 1, 0, none⟩ = some (.bool false) := hc11.cell 0
            simp [Leaves, settle, results, Tryz.results23, go_sem, k0, k1, k2]
            rw [HR11.out]
            exact ⟨HF12.out, _, _, _, rfl, rfl, rfl⟩
          · rw [hx10] at hr10
            obtain ⟨hp10, v, rfl, hv10⟩ := hr10
            exact hK _ _ (fun k v _ _ h => h.keep hf10) (fun _ _ _ => ⟨cl, ⟨r', hx10⟩, hv10.mono (fun b hb _ => Nat.le_trans hcm.1.size hb)⟩) ⟨hcm.read (by rw [hls]; decide) (by decide) hf10 hx10 hp10 (fun e => by omega) hbp, (fun u => absurd u (fun h => hn9 (up_set h (by decide))))⟩
        · have hn9 : ¬ up listed 6 := fun h => not_up hun (reach_of_up hj.closed 10 6 4 h (by kernel_rfl))
          have e1 : f 12 = .slice q0 nl.length cap0 := hf 0 _ _ rfl rfl (up_dep hr (by kernel_rfl)) (.inl rfl)
          refine GJ.op hj (by kernel_rfl) hr rfl [12, 13, 14, 15, 16, 17, 18, 19] (by kernel_rfl) (fun K hK => ?_)
          simp only [Act.put, List.foldl_cons, List.foldl_nil, List.setIfInBounds_toArray, List.set_cons_zero, List.set_cons_succ] at hK ⊢
          clear hj hf
          rw [e1] at hK ⊢
          clear e1
          go_simp
          exact hK _ _ (fun k v _ _ h => h.keep (Fx.refl _ _)) (fun t ht _ => rfl) ⟨hcm.keep (by decide) (by decide) (Below.refl _ _), (fun u => absurd u (fun h => hn9 (up_set h (by decide))))⟩
        · have hn9 : ¬ up listed 6 := fun h => not_up hun (reach_of_up hj.closed 10 6 5 h (by kernel_rfl))
          refine GJ.op hj (by kernel_rfl) hr rfl [12, 13, 14, 15, 16, 17, 18, 19] (by kernel_rfl) (fun K hK => ?_)
          simp only [Act.put, List.foldl_cons, List.foldl_nil, List.setIfInBounds_toArray, List.set_cons_zero, List.set_cons_succ] at hK ⊢
          clear hj hf
          go_simp
          exact hK _ _ (fun k v _ _ h => h.keep (Fx.of_below (held_alloc (Below.refl _ _)))) (fun _ _ _ => ⟨w9.heap.size, hcm.1.size, rfl, Box.new w9 _ _⟩) ⟨hcm.keep (by decide) (by decide) (held_alloc (Below.refl _ _)), (fun u => absurd u (fun h => hn9 (up_set h (by decide))))⟩
        · have e1 : f 12 = .slice q0 nl.length cap0 := hf 0 _ _ rfl rfl (up_dep hr (by kernel_rfl)) (.inl rfl)
          have hn9 : ¬ up listed 6 := not_up hun
          have hls := hj.lsize
          obtain ⟨gb, hgb, e2, hb9⟩ : ∃ g, W0.heap.size ≤ g ∧ f 17 = .slice (some ⟨g, 0, none⟩) 1 1 ∧ Box w9 g #[.int .u8 0, .slice none 0 0, .int .u8 0, .int .i64 0, .int .i64 0, .int .i64 0, .slice none 0 0, .int .i64 0] 43 := hf 5 _ _ rfl rfl (up_dep hr (by kernel_rfl)) (.inr (.inl hn9))
          obtain ⟨cl, hx6, h6⟩ : ∃ cl, (∃ r, x = .ok (cl, r)) ∧ IsC (fun b => W0.heap.size ≤ b) w9 (f 15) cl := hf 3 _ _ rfl rfl (up_dep hr (by kernel_rfl)) (.inl rfl)
          refine GJ.op hj (by kernel_rfl) hr rfl [12, 13, 14, 15, 16, 17, 18, 19] (by kernel_rfl) (fun K hK => ?_)
          simp only [Act.put, List.foldl_cons, List.foldl_nil, List.setIfInBounds_toArray, List.set_cons_zero, List.set_cons_succ] at hK ⊢
          clear hj hf
          rw [e1] at hK ⊢
          clear e1
          rw [e2] at hK ⊢
          clear e2
          have hown := hcm.2.2.2.1 hn9
          have hwsz := hcm.1.size
          refine step_appC ?q3 (.tmp 12) (.tmp 17) 22 ?q4 base 43 8 96 _ Tryz.underlying22 infoC rfl (by decide) (by decide) (.slice q0 nl.length cap0) (rowsOf us nl) [.int .u8 0, .slice none 0 0, .int .u8 0, .int .i64 0, .int .i64 0, .int .i64 0, .slice none 0 0, .int .i64 0] ?q1 hown rfl (by simp [Value.oneCell']) ⟨gb, 0, none⟩ 1 ?q2 hb9.news (by rw [hrl]; exact HLL.out) (Nat.le_trans hb0 hwsz) ?_
          case q1 => rfl
          case q2 => rfl
          case q3 => rfl
          case q4 => rfl
          intro v11 w11 hown11 hf11 hor11
          exact hK _ _ (fun k v hne _ h => h.app hne (by rw [hls]; decide) hf11) (fun _ _ => fun _ => trivial) ⟨hcm.app (by rw [hls]; decide) (by decide) hf11 (fun b e => by have := HOB.out b e; omega), fun _ => P9.mk hx6 h6 HL.out hcm.1 hown11 hf11 hor11 HOB.out hb0 hbp⟩
      · intro listed a9 w10 hu hnu hj
        have p9 : P9 base us nl [.int .u8 0, .slice none 0 0, .int .u8 0, .int .i64 0, .int .i64 0, .int .i64 0, .slice none 0 0, .int .i64 0] (fun cl => ∃ r, x = .ok (cl, r)) (a9.tmps.getD 15 undef) (a9.tmps.getD 18 undef) w10 := hj.com.2 (hu 6 (by omega))
        obtain ⟨cl, vn', vi', g, cap, ⟨r', hx9⟩, e6, e9, hgc, hgm, hgb, hgw, hown, hcl, hl⟩ := p9
        have hcm : CB W0 p en 3 6 base 43 8 (.slice q0 nl.length cap0) (rowsOf us nl) O #[.slice q0 nl.length cap0] 22 r x listed (fun t => a9.tmps.getD t undef) w10 := hj.com.1
        obtain ⟨a', r2, hx8, hp⟩ := hcm.2.2.1 (hu 3 (by omega))
        obtain ⟨rfl, rfl⟩ : cl = a' ∧ r' = r2 := by rw [hx9] at hx8; injection hx8 with hx8; injection hx8 with e1 e2; exact ⟨e1, e2⟩
        obtain ⟨qn, cn, rfl, _, _, _⟩ := (hasC_iff.1 hcl).2.1.2.shape
        obtain ⟨qi, ci, rfl, _, _, _⟩ := (hasC_iff.1 hcl).2.2.shape
        rw [e9] at hown
        have HP10 := Lib.hid hp
        have HF10 := Lib.hid hcm.1
        have HB10 := Lib.hid hcm.2.2.2.2
        have HX9 := Lib.hid hx9
        have HCL := Lib.hid hcl
        have HL10 := Lib.hid hl
        have HOW10 := Lib.hid hown
        have hsz10 := hcm.1.size
        refine ⟨fun _ k v _ => (fun κ v => match κ with | 3 => v = .agg (clV cl (.slice qn cl.names.length cn) (.slice qi cl.items.length ci)).toArray | 4 => v = .int .i64 ((nl.length : Nat) : Int) | 6 => v = .slice (some ⟨g, 0, none⟩) (nl.length + 1) cap | 7 => v = .pointer (some ⟨g, nl.length * 8, none⟩) | _ => True) k v, CD w10 8 9 base g cap us nl [.int .u8 0, .slice none 0 0, .int .u8 0, .int .i64 0, .int .i64 0, .int .i64 0, .slice none 0 0, .int .i64 0] cl O #[.slice q0 nl.length cap0] #[.slice (some ⟨g, 0, none⟩) (nl.length + 1) cap] 22, hj.change (CD.start (hnu 8 (by omega)) (hnu 9 (by omega)) HOW10.out HB10.out) ?_, ?_, ?_⟩
        · intro k o' t ho' ht hk
          have hk7 : k < 7 := Nat.lt_of_not_le fun h => hnu k h hk
          match k, hk7, ho', hk with
          | 0, _, ho', hk => trivial
          | 1, _, ho', hk => trivial
          | 2, _, ho', hk => trivial
          | 3, _, ho', hk => cases ho'; cases ht; exact e6
          | 4, _, ho', hk => cases ho'; cases ht; exact (hj.got 4 _ _ rfl rfl hk) (.inl rfl)
          | 5, _, ho', hk => trivial
          | 6, _, ho', hk => cases ho'; cases ht; exact e9
        · intro listed a9 w9 i9 hin hu hr hj
          have h12 : i9 = 7 ∨ i9 = 8 ∨ i9 = 9 := by have h := (ready_mem hr).1; change i9 < 10 at h; omega
          obtain ⟨hi12, hun, _, _, _⟩ := ready_mem hr
          obtain ⟨f, rfl, hcm, hf⟩ := hj.opened [12, 13, 14, 15, 16, 17, 18, 19] (by kernel_rfl)
          replace hcm : CD w10 8 9 base g cap us nl [.int .u8 0, .slice none 0 0, .int .u8 0, .int .i64 0, .int .i64 0, .int .i64 0, .slice none 0 0, .int .i64 0] cl O #[.slice q0 nl.length cap0] #[.slice (some ⟨g, 0, none⟩) (nl.length + 1) cap] 22 listed f w9 := hcm
          rcases h12 with rfl | rfl | rfl
          · have e1 : f 18 = .slice (some ⟨g, 0, none⟩) (nl.length + 1) cap := hf 6 _ _ rfl rfl (hu 6 (by omega))
            have e2 : f 16 = .int .i64 ((nl.length : Nat) : Int) := hf 4 _ _ rfl rfl (hu 4 (by omega))
            have q1 : ((nl.length : Nat) : Int) < ((nl.length : Nat) : Int) + 1 := by omega
            have q2 : (0 : Int) ≤ ((nl.length : Nat) : Int) := by omega
            refine GJ.op hj (by kernel_rfl) hr rfl [12, 13, 14, 15, 16, 17, 18, 19] (by kernel_rfl) (fun K hK => ?_)
            simp only [Act.put, List.foldl_cons, List.foldl_nil, List.setIfInBounds_toArray, List.set_cons_zero, List.set_cons_succ] at hK ⊢
            clear hj hf
            rw [e1, e2] at hK ⊢
            clear e1 e2
            go_simp
            exact hK _ _ (fun k v _ _ h => h) (fun t ht => rfl) (hcm.keep (by decide) (by decide))
          · have e1 : f 19 = .pointer (some ⟨g, nl.length * 8, none⟩) := hf 7 _ _ rfl rfl (up_dep hr (by kernel_rfl))
            have e2 : f 15 = .agg (clV cl (.slice qn cl.names.length cn) (.slice qi cl.items.length ci)).toArray := hf 3 _ _ rfl rfl (hu 3 (by omega))
            have hn11 : ¬ up listed 8 := not_up hun
            have hls := hj.lsize
            have hown := hcm.2.1 hn11
            obtain ⟨g2, cap2, eg, _, _, _, _, _, hgf, hgat⟩ := hown.pos (by simp)
            obtain ⟨rfl, rfl⟩ : g = g2 ∧ cap = cap2 := by injection eg with e1 _ e2; injection e1 with e1; injection e1 with e1; exact ⟨e1, e2⟩
            clear eg
            have hz := hgat nl.length (by rw [List.length_append, hrl]; simp)
            rw [row_last hrl] at hz
            have x0 : w9.cell? ⟨g, nl.length * 8, none⟩ = some (.int .u8 0) := hz 0 (by omega)
            have x1 : w9.cell? ⟨g, nl.length * 8 + 1, none⟩ = some (.slice none 0 0) := hz 1 (by omega)
            have x2 : w9.cell? ⟨g, nl.length * 8 + 2, none⟩ = some (.int .u8 0) := hz 2 (by omega)
            have x3 : w9.cell? ⟨g, nl.length * 8 + 3, none⟩ = some (.int .i64 0) := hz 3 (by omega)
            have x4 : w9.cell? ⟨g, nl.length * 8 + 4, none⟩ = some (.int .i64 0) := hz 4 (by omega)
            have x5 : w9.cell? ⟨g, nl.length * 8 + 5, none⟩ = some (.int .i64 0) := hz 5 (by omega)
            have x6 : w9.cell? ⟨g, nl.length * 8 + 6, none⟩ = some (.slice none 0 0) := hz 6 (by omega)
            have x7 : w9.cell? ⟨g, nl.length * 8 + 7, none⟩ = some (.int .i64 0) := hz 7 (by omega)
            have z0 := hgf (nl.length * 8)
            have z1 := hgf (nl.length * 8 + 1)
            have z2 := hgf (nl.length * 8 + 2)
            have z3 := hgf (nl.length * 8 + 3)
            have z4 := hgf (nl.length * 8 + 4)
            have z5 := hgf (nl.length * 8 + 5)
            have z6 := hgf (nl.length * 8 + 6)
            have z7 := hgf (nl.length * 8 + 7)
            clear hgat hz hgf
            refine GJ.op hj (by kernel_rfl) hr rfl [12, 13, 14, 15, 16, 17, 18, 19] (by kernel_rfl) (fun K hK => ?_)
            simp only [Act.put, List.foldl_cons, List.foldl_nil, List.setIfInBounds_toArray, List.set_cons_zero, List.set_cons_succ] at hK ⊢
            clear hj hf
            rw [e1, e2] at hK ⊢
            clear e1 e2
            unfold clV at hK ⊢
            go_simp
            exact hK undef _ (fun k v _ _ h => h) (fun t ht => by cases ht) (hcm.elem hn11 (by rw [hls]; decide) (by decide) HL10.out HCL.out (fun b hb => hb) hOb hgb)
          · have e1 : f 18 = .slice (some ⟨g, 0, none⟩) (nl.length + 1) cap := hf 6 _ _ rfl rfl (hu 6 (by omega))
            have hn14 : ¬ up listed 9 := not_up hun
            have hls := hj.lsize
            have hbx := hcm.2.2.2.1 hn14
            have kc : w9.cell? ⟨O, 0, none⟩ = some (.slice q0 nl.length cap0) := hbx.cell 0
            have kz := hbx.frozen 0
            have klt := hbx.lt
            clear hbx
            refine GJ.op hj (by kernel_rfl) hr rfl [12, 13, 14, 15, 16, 17, 18, 19] (by kernel_rfl) (fun K hK => ?_)
            simp only [Act.put, List.foldl_cons, List.foldl_nil, List.setIfInBounds_toArray, List.set_cons_zero, List.set_cons_succ] at hK ⊢
            clear hj hf
            rw [e1] at hK ⊢
            clear e1
            go_simp
            exact hK undef _ (fun k v _ _ h => h) (fun t ht => by cases ht) (hcm.var hn14 (by rw [hls]; decide) (by decide) (by simp) hOb)
        · intro listed a9 w12 hu hj
          obtain ⟨f, rfl, hcm, hf⟩ := hj.opened [12, 13, 14, 15, 16, 17, 18, 19] (by kernel_rfl)
          replace hcm : CD w10 8 9 base g cap us nl [.int .u8 0, .slice none 0 0, .int .u8 0, .int .i64 0, .int .i64 0, .int .i64 0, .slice none 0 0, .int .i64 0] cl O #[.slice q0 nl.length cap0] #[.slice (some ⟨g, 0, none⟩) (nl.length + 1) cap] 22 listed f w12 := hcm
          have HO12 := Lib.hid (hcm.2.2.1 (hu 8 (by decide)))
          have HB12 := Lib.hid (hcm.2.2.2.2 (hu 9 (by decide)))
          have HP12 := Lib.hid (HP10.out.fx hcm.1 (fun b e => by rcases e with e | e <;> omega))
          have hfa := HF.out.new HF10.out HTF.out
          have HF12 := Lib.hid (hfa.new hcm.1 (fun b e => .inr (by rcases e with e | e <;> omega)))
          have HE12 := Lib.hid ((HE.out.fx HF10.out HTN.out).fx hcm.1 (fun b e => by rcases e with e | e <;> omega))
          have HB112 := Lib.hid ((HB1.out.fx HF10.out HNO.out).fx hcm.1 (fun e => by rcases e with e | e <;> omega))
          have HB212 := Lib.hid ((HB2.out.fx HF10.out HNO2.out).fx hcm.1 (fun e => by rcases e with e | e <;> omega))
          have hs12 := hcm.1.size
          clear hfa hcm hf hj hu
          simp only [List.foldl_cons, List.foldl_nil, List.setIfInBounds_toArray, List.set_cons_zero, List.set_cons_succ]
          generalize f 12 = g12
          generalize f 13 = g13
          generalize f 14 = g14
          generalize f 15 = g15
          generalize f 16 = g16
          generalize f 17 = g17
          generalize f 18 = g18
          generalize f 19 = g19
          clear f
          have hlr3 : r'.length + 1 ≤ r.length := by have := topP_len (HX.out.trans HX9.out); omega
          have HY12 : Hid ((andP (allP r') fun l r => (.ok ((nl ++ [cl]) ++ l, r) : PR _)) = y) := by
            show _ = _
            rw [← HY.out, HX9.out]
            simp [andP]
          have hll2 : (nl ++ [cl]).length = nl.length + 1 := by simp
          go_wp2_with fail
          go_roundg r'.length
          case measure => show r'.length < r0.length + 1; omega
          case rel => exact ⟨r', _, nl ++ [cl], rfl, by rw [hll2]; omega, by omega, HY12.out, HP12.out, HE12.out, HF12.out, HB112.out, HB212.out, HO12.out, HB12.out⟩
end Go.Proofs.YtganlldidjbpiaaGreatDoor

namespace Go.Proofs.YtganlldidjbpiaaGreatDoor
open Go.RowKit

/-- Block l holds no data: the state of a loop, or calls that are put off. -/
def Soft (W : World) (l : Nat) : Prop := (∃ L, W.heap[l]? = some (.loop L)) ∨ ∃ d, W.heap[l]? = some (.deferred d)
theorem Soft.lt {W : World} {l : Nat} (h : Soft W l) : l < W.heap.size := by
  rcases h with ⟨L, h⟩ | ⟨d, h⟩ <;> exact (Array.getElem?_eq_some_iff.1 h).1
theorem Soft.ne_box {W : World} {l b : Nat} {cs : Array Value} {t : TypeId} {fz : Nat × Nat} (h : Soft W l) (hb : W.heap[b]? = some (.cells cs t fz)) : b ≠ l := by
  rintro rfl
  rcases h with ⟨L, h⟩ | ⟨d, h⟩ <;> rw [hb] at h <;> cases h
theorem Soft.cell_ne {W : World} {l b o : Nat} {v : Value} (h : Soft W l) (hc : W.cell? ⟨b, o, none⟩ = some v) : b ≠ l := by
  rintro rfl
  rcases h with ⟨L, h⟩ | ⟨d, h⟩ <;> simp [World.cell?, h] at hc
theorem Box.soft {W W' : World} {l b : Nat} {cs : Array Value} {t : TypeId} (h : Box W b cs t) (hs : Soft W l) (hg : W.grownBy W' (some l)) : Box W' b cs t :=
  (hg.block b h.lt (by intro e; injection e with e; exact hs.ne_box h e)).trans h
theorem cell_soft {W W' : World} {l b o : Nat} {v : Value} (h : W.cell? ⟨b, o, none⟩ = some v) (hs : Soft W l) (hg : W.grownBy W' (some l)) : W'.cell? ⟨b, o, none⟩ = some v :=
  hg.cell h (by intro e; injection e with e; exact hs.cell_ne h e)
theorem putObj_grown2 (W : World) (l : Nat) (o : Obj) : W.grownBy (W.putObj l o) (some l) := grownBy_putObj' W l o
/-- Blocks from B on that hold no data are as they were. -/
def KeepSoft (B : Nat) (w W : World) : Prop := w.heap.size ≤ W.heap.size ∧ ∀ b, B ≤ b → Soft w b → W.heap[b]? = w.heap[b]?
theorem KeepSoft.refl (B : Nat) (w : World) : KeepSoft B w w := ⟨Nat.le_refl _, fun _ _ _ => rfl⟩
theorem KeepSoft.of_below {B : Nat} {w W : World} (h : Below w.heap.size w W) : KeepSoft B w W := ⟨h.size, fun b _ hs => h.block b hs.lt⟩
theorem KeepSoft.soft {B : Nat} {w W : World} (h : KeepSoft B w W) {b : Nat} (hb : B ≤ b) (hs : Soft w b) : Soft W b := by
  have := h.2 b hb hs
  rcases hs with ⟨L, h⟩ | ⟨d, h⟩
  · exact .inl ⟨L, this.trans h⟩
  · exact .inr ⟨d, this.trans h⟩
theorem KeepSoft.trans {B : Nat} {w W V : World} (h : KeepSoft B w W) (k : KeepSoft B W V) : KeepSoft B w V :=
  ⟨Nat.le_trans h.1 k.1, fun b hb hs => (k.2 b hb (h.soft hb hs)).trans (h.2 b hb hs)⟩
theorem KeepSoft.grown {B : Nat} {w W V : World} {row : Option Nat} (h : KeepSoft B w W) (hg : W.grownBy V row) (hr : ∀ g, row = some g → ¬ Soft W g) : KeepSoft B w V := by
  refine h.trans ⟨hg.size, fun b hb hs => hg.block b hs.lt ?_⟩
  intro e
  exact hr b e.symm hs
theorem KeepSoft.setCell {B : Nat} {w W : World} (h : KeepSoft B w W) {b i : Nat} {u : Value} {v : Value} (hc : W.cell? ⟨b, i, none⟩ = some v) : KeepSoft B w (W.setCell ⟨b, i, none⟩ u) := by
  refine h.trans ⟨by simp [World.setCell], fun b' _ hs => Below.heap_setCell W ⟨b, i, none⟩ u b' ?_⟩
  rintro rfl
  exact hs.cell_ne hc rfl
theorem KeepSoft.below {B : Nat} {w W V : World} (h : KeepSoft B w W) (hb : Below W.heap.size W V) : KeepSoft B w V := h.trans (.of_below hb)
/-- Variables that are let alone (Fr says which) are as they were. -/
def KeepF (Fr : World → Nat → Prop) (W W' : World) : Prop := ∀ b cs t, Box W b cs t → Fr W b → Box W' b cs t
/-- How the body of a round may be left. -/
def roundPost (B : Nat) (Fr : World → Nat → Prop) (J X : World → Prop) (w2 : World) : Exit → Act → World → Prop
  | .normal, _, W3 => J W3 ∧ KeepSoft B w2 W3 ∧ KeepF Fr w2 W3
  | .ret, _, W3 => X W3 ∧ KeepSoft B w2 W3
  | _, _, _ => False

theorem wpIn_range_keep {P : Program} {F : Fence} {n : Nat} {g : Operand} {ps : Array Tmp} {assign body : Code} {Q : Exit → Act → World → Prop} {a : Act} {w : World}
    (hro : F.round = none) (h1 : 1 ≤ n) {gf : Nat} {lb : Array Value} (hg : a.eval g = .func (.func gf) #[] lb) (hFg : F.fn gf) (eg : ∀ args w, (callFunc gf args).run P w = .ok (.enter gf args) w)
    (Fr : World → Nat → Prop) (N : Nat) (J : Nat → World → Prop) (V : Nat → Array Value → World → Prop) (X : Nat → World → Prop) (hV : ∀ r args W, V r args W → args.size = ps.size)
    (hJB : ∀ r W, J r W → w.heap.size ≤ W.heap.size)
    (hJb : ∀ r W W', J r W → Below W.heap.size W W' → J r W')
    (hJl : ∀ r W W' l, w.heap.size ≤ l → J r W → Soft W l → W.grownBy W' (some l) → J r W')
    (hF1 : ∀ r W w1 b, J r W → Below W.heap.size W w1 → Fr W b → Fr w1 b)
    (hF2 : ∀ r W W' l b, J r W → Soft W l → W.grownBy W' (some l) → Fr W b → Fr W' b)
    (hJ0 : J 0 w)
    (hiter : ∀ (l : Nat) (W1 : World) (J' Y : Nat → World → Prop), (∀ r W, J' r W → J r W) → (∀ r W W', J' r W → Below W.heap.size W W' → J' r W') → J' 0 W1 →
      (∀ (r : Nat) (args : Array Value) (W : World), r < N → J' r W → V r args W →
        YieldAt F (n - 1 - 1) P l args W fun e W' => (e = .returned (.bool true) ∧ J' (r + 1) W' ∧ KeepF Fr W W') ∨ (e = .returned (.bool false) ∧ Y r W')) →
      CallsIn F (n - 1) P gf (#[.func (.yield l) #[] #[]] ++ lb) W1 fun e W' => (∃ v, e = .returned v) ∧ (J' N W' ∨ ∃ r, r < N ∧ Y r W'))
    (A : Nat → Array Value → Act → World → World → Prop) (hA : ∀ r args a1 W w1, A r args a1 W w1 → Below W.heap.size W w1)
    (hassign : ∀ (l r : Nat) (args : Array Value) (W : World) (K : Act → World → Prop), r < N → J r W → V r args W → (∀ a1 w1, A r args a1 W w1 → K a1 w1) →
      assign.wpIn (F.inRound l) (n - 1 - 1) P (Exit.then K (fun _ _ _ => False)) { tmps := (ps.zip args).foldl (fun t (p, v) => t.setIfInBounds p v) a.tmps, defers := [] } W)
    (hbody : ∀ (l r : Nat) (args : Array Value) (W w1 w2 : World) (a1 : Act), r < N → J r W → V r args W → A r args a1 W w1 → J r w2 → Soft w1 l → l < W.heap.size → w1.grownBy w2 (some l) →
      body.wpIn (F.inRound l) (n - 1 - 1) P (roundPost w.heap.size Fr (J (r + 1)) (X r) w2) a1 w2)
    (hdone : ∀ W, J N W → W.heap[w.heap.size]? = some (.deferred (some [])) → Q .normal { a with defers := { target := .collected w.heap.size, args := #[] } :: a.defers } W)
    (hstop : ∀ (l r : Nat) (W3 W : World), r < N → X r W3 → w.heap.size < l → Soft W3 l → W3.grownBy W (some l) → W.heap[w.heap.size]? = some (.deferred (some [])) →
      Code.ret.wpIn F n P Q { a with defers := { target := .collected w.heap.size, args := #[] } :: a.defers } W) :
    (Code.rangeFunc g ps assign body).wpIn F n P Q a w := by
  refine wpIn_rangeFunc ?_
  intro fn hfn
  rw [hro]
  obtain ⟨rec, hrec⟩ : ∃ rec : LoopState → Option Code → Loop, rec = fun st pe => { state := st, pending := pe, fn, tmps := a.tmps, params := ps, assign, body, defers := w.heap.size } := ⟨_, rfl⟩
  obtain ⟨W1, hW1⟩ : ∃ W1, W1 = (w.alloc (.deferred (some []))).alloc (.loop (rec .ready none)) := ⟨_, rfl⟩
  have hw1 : Below w.heap.size w W1 := hW1 ▸ ((Below.refl _ w).alloc (Nat.le_refl _) _).alloc (by simp) _
  have hl1 : W1.heap[w.heap.size + 1]? = some (.loop (rec .ready none)) := by
    rw [hW1]; have := heap_alloc_new (w.alloc (.deferred (some []))) (.loop (rec .ready none)); rwa [World.size_alloc] at this
  have hd1 : W1.heap[w.heap.size]? = some (.deferred (some [])) := by
    rw [hW1]; exact (Below.heap_alloc _ _ _ (by simp)).trans (heap_alloc_new w _)
  have hs1 : W1.heap.size = w.heap.size + 2 := by rw [hW1]; simp
  refine ⟨w.heap.size + 1, [{ target := .collected w.heap.size, args := #[] }], W1, { target := .fn (.func gf) lb, args := #[.func (.yield (w.heap.size + 1)) #[] #[]] }, W1, gf, #[.func (.yield (w.heap.size + 1)) #[] #[]] ++ lb, W1, ?_, ?_, ?_, ?_, fun _ => h1, ?_⟩
  · rw [hW1, hrec]; exact run_enterLoop_outer _ _ _ _ _
  · simp only [resolve, hg]
    simp [go_sem]
  · intro f' hf'; simp [Target.leads] at hf'; subst hf'; exact hFg
  · simp [invoke, go_sem, eg]
  · refine (hiter (w.heap.size + 1) W1 (fun r W => J r W ∧ W.heap[w.heap.size + 1]? = some (.loop (rec .ready none)) ∧ W.heap[w.heap.size]? = some (.deferred (some [])))
      (fun r W' => ∃ W3, X r W3 ∧ W3.heap[w.heap.size + 1]? = some (.loop (rec .busy none)) ∧ W3.heap[w.heap.size]? = some (.deferred (some [])) ∧ W' = W3.putObj (w.heap.size + 1) (.loop (rec .done (some .ret)))) (fun r W h => h.1) ?_ ⟨hJb _ _ _ hJ0 hw1, hl1, hd1⟩ ?_).mono ?_
    · rintro r W W' ⟨h, hl, hd⟩ hb
      exact ⟨hJb _ _ _ h hb, (hb.block _ (Array.getElem?_eq_some_iff.1 hl).1).trans hl, (hb.block _ (Array.getElem?_eq_some_iff.1 hd).1).trans hd⟩
    · -- a round
      rintro r args W hr ⟨hj, hl, hd⟩ hv
      have hsz := hJB _ _ hj
      have hlt := (Array.getElem?_eq_some_iff.1 hl).1
      have hy := run_yield (P := P) (args := args) hl (by rw [hrec]; exact hV _ _ _ hv)
      rw [hrec] at hy
      refine ⟨fn, _, assign, body, hy, roundIn_of_wpIn hfn (hassign _ r args W _ hr hj hv ?_)⟩
      intro a1 w1 ha
      have hbw1 := hA _ _ _ _ _ ha
      have hlw1 : w1.heap[w.heap.size + 1]? = some (.loop (rec .ready none)) := (hbw1.block _ (by omega)).trans hl
      have hdw1 : w1.heap[w.heap.size]? = some (.deferred (some [])) := (hbw1.block _ (by omega)).trans hd
      have hsw1 := hbw1.size
      have hbr := run_beginRound (P := P) hlw1 (by rw [hrec])
      refine ⟨_, hbr, ?_⟩
      have hrb : ({ rec .ready none with state := .busy } : Loop) = rec .busy none := by rw [hrec]
      rw [hrb]
      have hl2 : (w1.putObj (w.heap.size + 1) (.loop (rec .busy none))).heap[w.heap.size + 1]? = some (.loop (rec .busy none)) := World.putObj_heap_same (by omega)
      have hd2 : (w1.putObj (w.heap.size + 1) (.loop (rec .busy none))).heap[w.heap.size]? = some (.deferred (some [])) := (World.putObj_heap_other (by omega)).trans hdw1
      have hj2 : J r (w1.putObj (w.heap.size + 1) (.loop (rec .busy none))) := hJl _ _ _ _ (by omega) (hJb _ _ _ hj hbw1) (.inl ⟨_, hlw1⟩) (putObj_grown2 _ _ _)
      refine wpIn_mono (hbody _ r args W w1 _ a1 hr hj hv ha hj2 (.inl ⟨_, hlw1⟩) (by omega) (putObj_grown2 _ _ _)) ?_
      rintro e a3 W3 hp
      cases e with
      | normal =>
        obtain ⟨hc, hk3, hkf⟩ := hp
        have hl3 : W3.heap[w.heap.size + 1]? = some (.loop (rec .busy none)) := (hk3.2 _ (by omega) (.inl ⟨_, hl2⟩)).trans hl2
        have hd3 : W3.heap[w.heap.size]? = some (.deferred (some [])) := (hk3.2 _ (by omega) (.inr ⟨_, hd2⟩)).trans hd2
        have her := run_endRound (P := P) none hl3
        refine ⟨_, _, her, .inl ⟨rfl, ⟨?_, ?_, ?_⟩, ?_⟩⟩
        · exact hJl _ _ _ _ (by omega) hc (.inl ⟨_, hl3⟩) (putObj_grown2 _ _ _)
        · have hre : ({ rec .busy none with state := if (none : Option Code).isNone then .ready else .done, pending := none } : Loop) = rec .ready none := by rw [hrec]; rfl
          rw [hre]
          exact World.putObj_heap_same (Array.getElem?_eq_some_iff.1 hl3).1
        · exact (World.putObj_heap_other (by omega)).trans hd3
        · intro b cs t hbx hfr
          have f1 := hF1 r W w1 b hj hbw1 hfr
          have f2 := hF2 r w1 _ _ b (hJb _ _ _ hj hbw1) (.inl ⟨_, hlw1⟩) (putObj_grown2 w1 (w.heap.size + 1) (.loop (rec .busy none))) f1
          have b2 := (hbx.after hbw1).soft (.inl ⟨_, hlw1⟩) (putObj_grown2 w1 (w.heap.size + 1) (.loop (rec .busy none)))
          exact (hkf b cs t b2 f2).soft (.inl ⟨_, hl3⟩) (putObj_grown2 W3 _ _)
      | ret =>
        obtain ⟨hx, hk3⟩ := hp
        have hl3 : W3.heap[w.heap.size + 1]? = some (.loop (rec .busy none)) := (hk3.2 _ (by omega) (.inl ⟨_, hl2⟩)).trans hl2
        have hd3 : W3.heap[w.heap.size]? = some (.deferred (some [])) := (hk3.2 _ (by omega) (.inr ⟨_, hd2⟩)).trans hd2
        have her := run_endRound (P := P) (some .ret) hl3
        refine ⟨_, _, her, .inr ⟨rfl, W3, hx, hl3, hd3, ?_⟩⟩
        rw [hrec]; rfl
      | exit id => exact hp.elim
      | goto t => exact hp.elim
      | panic ch => exact hp.elim
      | outgrown => exact hp.elim
    · -- behind the iterator
      rintro e W2 ⟨⟨v, rfl⟩, (⟨hj, hl, hd⟩ | ⟨r, hr, W3, hx, hl3, hd3, rfl⟩)⟩
      · have hel := run_endLoop (P := P) hl (by rw [hrec]; simp)
        have hpe : (rec .ready none).pending = none := by rw [hrec]
        rw [hpe] at hel
        exact ⟨none, _, hel, hdone _ (hJl _ _ _ _ (by omega) hj (.inl ⟨_, hl⟩) (putObj_grown2 _ _ _)) ((World.putObj_heap_other (by omega)).trans hd)⟩
      · have hsl := (Array.getElem?_eq_some_iff.1 hl3).1
        have hl4 : (W3.putObj (w.heap.size + 1) (.loop (rec .done (some .ret)))).heap[w.heap.size + 1]? = some (.loop (rec .done (some .ret))) := World.putObj_heap_same hsl
        have hel := run_endLoop (P := P) hl4 (by rw [hrec]; simp)
        have hpe : (rec .done (some .ret)).pending = some .ret := by rw [hrec]
        rw [hpe] at hel
        refine ⟨some .ret, _, hel, hstop (w.heap.size + 1) r W3 _ hr hx (by omega) (.inl ⟨_, hl3⟩) ?_ ?_⟩
        · refine ⟨rfl, rfl, rfl, by simp, fun j hj hne => ?_⟩
          rw [World.putObj_heap_other (fun e => hne (by rw [e])), World.putObj_heap_other (fun e => hne (by rw [e]))]
        · rw [World.putObj_heap_other (by omega), World.putObj_heap_other (by omega)]
          exact hd3
end Go.Proofs.YtganlldidjbpiaaGreatDoor
