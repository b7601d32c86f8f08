/- Syntax, the reference: service. -/
import Derived.Test.YtganlldidjbpiaaGreatDoorQSyU7
import Derived.Test.YtganlldidjbpiaaGreatDoorK10
set_option linter.unusedVariables false
namespace Go.Proofs.YtganlldidjbpiaaGreatDoor
open Go.RowKit Go.Shelf

/-- A new block of one clause. -/
def KS.cb {S : Nat → Prop} (B : Nat) (P : Cl → Prop) (hS : ∀ b, S b → b < B) : KS S :=
  ⟨fun v w => ∃ g c vn vi, P c ∧ B ≤ g ∧ v = .slice (some ⟨g, 0, none⟩) 1 1 ∧ Box w g (clV c vn vi).toArray 43 ∧ HasC (fun b => B ≤ b) w vn vi c,
   fun _ _ _ hf ⟨g, c, vn, vi, h1, h2, h3, h4, h5⟩ => ⟨g, c, vn, vi, h1, h2, h3, h4.fx hf (fun e => by have := hS g e; omega), HasC.fx hf (fun b hb _ e => by have := hS b e; omega) c h5⟩⟩
theorem one_cells {D : Nat → Prop} {w : World} {vn vi : Value} {c : Cl} (h : HasC D w vn vi c) : ∀ u ∈ clV c vn vi, u.oneCell' = true := by
  obtain ⟨_, h1, h2⟩ := hasC_iff.1 h
  obtain ⟨_, _, rfl, _⟩ := h1.2.shape
  obtain ⟨_, _, rfl, _⟩ := h2.shape
  intro u hu
  unfold clV at hu
  simp only [List.mem_cons, List.not_mem_nil, or_false] at hu
  rcases hu with rfl | rfl | rfl | rfl | rfl | rfl | rfl | rfl <;> rfl
theorem OwnCl.app {w w' : World} {base m : Nat} {v0 v' vn vi : Value} {us : List (Value × Value)} {l : List Cl} {c : Cl} (hL : HasL (DR base v0) w us l) (hC : HasC (fun b => m ≤ b) w vn vi c) (hm : base ≤ m) (hob : ∀ b, some b = v0.ownBlock → b < m)
    (hown : OwnC w' base 43 8 v' (rowsOf us l ++ [clV c vn vi])) (hf : Fx (fun b => some b = v0.ownBlock) w w') (hor : v'.ownBlock = v0.ownBlock ∨ v'.ownBlock = some w.heap.size) : OwnCl (DR base v') w' base v' (l ++ [c]) := by
  refine ⟨us ++ [(vn, vi)], by rw [rowsOf_snoc hL.len]; exact hown, HasL.snoc ?_ ?_⟩
  · have h1 := HasL.mono (D' := fun b => DR base v0 b ∧ b < w.heap.size) (fun b hb hlt => ⟨hb, hlt⟩) l hL
    have h2 := HasL.fx hf (fun b hb _ e => hb.1.2 e) l h1
    refine HasL.mono (fun b hb _ => ⟨hb.1.1, fun e => ?_⟩) l h2
    rcases hor with h | h
    · exact hb.1.2 (e.trans h)
    · rw [h] at e; injection e with e; have := hb.2; omega
  · have h1 := HasC.mono (D' := fun b => m ≤ b ∧ b < w.heap.size) (fun b hb hlt => ⟨hb, hlt⟩) c hC
    have h2 := HasC.fx hf (fun b hb _ e => by have := hob b e; have := hb.1; omega) c h1
    refine HasC.mono (fun b hb _ => ⟨by have := hb.1; omega, fun e => ?_⟩) c h2
    rcases hor with h | h
    · have := hob b (e.trans h); have := hb.1; omega
    · rw [h] at e; injection e with e; have := hb.2; omega
/-- The items that are still to come, and the clause then. -/
def serM (o : Int) (n : List UInt8) (acc : List Cl) (ts : List Tok) : PR Cl := andP (itemsA ts) fun l r => .ok (Cl.mk 1 [n] 0 0 0 0 (acc ++ l) o, r)
theorem ser_exit (o : Int) (n : List UInt8) (acc : List Cl) {s : Except (List Tok) (List Tok)} (h : (∃ r, s = .error r) ∨ isS sClose s = true) : IR (serM o n acc) s (.mk 1 [n] 0 0 0 0 acc o) (goS (wantP sClose) s) := by
  rcases h with ⟨r, rfl⟩ | h
  · exact ⟨rfl, fun c0 h => by cases h⟩
  · obtain ⟨t, r, rfl, ht⟩ := isS_yes h
    have hc : (t.text == sClose) = true := by rw [ht]; simp
    have e : itemsA (t :: r) = .ok ([], r) := by rw [itemsA_have, haveF_yes hc]; rfl
    have e2 : serM o n acc (t :: r) = .ok (.mk 1 [n] 0 0 0 0 acc o, r) := by unfold serM; rw [e]; simp [andP]
    refine ⟨?_, fun c0 h => ?_⟩
    · rw [goS_want_yes ht]; unfold goS; simp only [e2]
    · unfold outS at h; simp only [e2] at h; injection h
theorem ser_round (o : Int) (n : List UInt8) (acc : List Cl) {r : List Tok} {c : Cl} (h : isS sClose (.ok r) = false) (hc : ∀ c0, outS itemP (.ok r) = some c0 → c = c0) :
    goS (serM o n acc) (.ok r) = goS (serM o n (acc ++ [c])) (goS itemP (.ok r)) ∧ outS (serM o n acc) (.ok r) = outS (serM o n (acc ++ [c])) (goS itemP (.ok r)) ∧ measS (goS itemP (.ok r)) < measS (.ok r) := by
  have hh : (haveF sClose r).1 = false := by
    rcases r with _ | ⟨t, r⟩
    · rfl
    · have ht : (t.text == sClose) = false := by
        have : decide (t.text = sClose) = false := h
        simpa using this
      rw [haveF_no ht]
  have e : itemsA r = andP (itemP r) fun c r => andP (itemsA r) fun l r => .ok (c :: l, r) := by rw [itemsA_have, hh]; rfl
  rcases hi : itemP r with z | ⟨d, r1⟩
  · have e2 : serM o n acc r = .error z := by unfold serM; rw [e, hi]; rfl
    have g1 : goS itemP (.ok r) = .error z := by unfold goS; simp only [hi]
    refine ⟨?_, ?_, ?_⟩
    · rw [g1]; unfold goS; simp only [e2]
    · rw [g1]; unfold outS; simp only [e2]
    · rw [g1]; unfold measS; simp
  · have g1 : goS itemP (.ok r) = .ok r1 := by unfold goS; simp only [hi]
    have g2 : outS itemP (.ok r) = some d := by unfold outS; simp only [hi]
    obtain rfl := hc d g2
    have hl := itemP_len hi
    have e2 : serM o n acc r = serM o n (acc ++ [c]) r1 := by
      unfold serM
      rw [e, hi]
      simp only [andP]
      rcases itemsA r1 with z | ⟨l, r2⟩
      · rfl
      · simp
    rw [g1]
    refine ⟨?_, ?_, ?_⟩
    · unfold goS; simp only [e2]
    · unfold outS; simp only [e2]
    · unfold measS; simp; omega
theorem ir_service (o : Int) {s s2 : Except (List Tok) (List Tok)} {L : List Cl} (h : ∀ n, IR (serM o n []) (goS (wantP sOpen) (goS nameP s)) (.mk 1 [n] 0 0 0 0 L o) s2) : IR (bodyT 1 o) s (.mk 1 [(outS nameP s).getD []] 0 0 0 0 L o) s2 := by
  refine IR.congr (x := fun ts => andP (nameP ts) fun n r => andP (wantP sOpen r) fun _ r => serM o n [] r) ?_ (fun r => by unfold bodyT; rw [if_pos rfl]; rfl)
  refine IR.step (c := fun n => Cl.mk 1 [n] 0 0 0 0 L o) [] (fun n => ?_)
  exact IR.step' tok00 (fun _ => h n)
set_option maxRecDepth 100000 in
set_option maxHeartbeats 8000000 in
theorem rserv_r5 (ops : Array Oper) (hops : (Tryz.f41.body.bind (regOf 5)) = some ops) {wr : World} {p c base : Nat} {ts : List Tok} {en : Int} {r : List Tok} {nl : List Cl} {us : List (Value × Value)} {k vn0 d i a b v0 o : Value} {Q : Exit → Act → World → Prop} {x1 x2 x4 x5 x6 x7 x8 x9 x10 x11 x12 x13 x14 x15 x16 x17 x18 x19 x20 x21 x22 x23 x24 x25 x26 x27 x28 x29 x30 x31 : Value}
    (hen : In64 en) (hts : ts.length ≤ 900000) (hp : RP wr p ts en (.ok r)) (hbx : Box wr c #[k, vn0, d, i, a, b, v0, o] 43) (hoc : OwnC wr base 43 8 v0 (rowsOf us nl)) (hol : HasL (DR base v0) wr us nl) (hnl : nl.length ≤ 1000000) (hpc : p < c) (hcb : c < base) (hbs : base ≤ wr.heap.size)
    (hQ : ∀ (W : World) (v' : Value) (cl : Cl) (y22 y23 y24 y25 y26 y27 y28 : Value), (fun cl => ∀ c0, outS itemP (.ok r) = some c0 → cl = c0) cl → OwnCl (DR base v') W base v' (nl ++ [cl]) → RP W p ts en (goS itemP (.ok r)) → Box W c #[k, vn0, d, i, a, b, v', o] 43 → Fx (fun b => b = p ∨ b = c ∨ base ≤ b) wr W → Q .normal ⟨[.pointer (some ⟨p, 0, none⟩), x1, x2, .pointer (some ⟨c, 0, none⟩), x4, x5, x6, x7, x8, x9, x10, x11, x12, x13, x14, x15, x16, x17, x18, x19, x20, x21, y22, y23, y24, y25, y26, y27, y28, x29, x30, x31].toArray, []⟩ W) :
    (Code.region 5 ops true).wp Tryz.prog Q ⟨[.pointer (some ⟨p, 0, none⟩), x1, x2, .pointer (some ⟨c, 0, none⟩), x4, x5, x6, x7, x8, x9, x10, x11, x12, x13, x14, x15, x16, x17, x18, x19, x20, x21, x22, x23, x24, x25, x26, x27, x28, x29, x30, x31].toArray, []⟩ wr := by
  simp only [Tryz.f41, Option.bind_some, regOf] at hops
  replace hops := Option.some.inj hops
  subst hops
  replace hQ := Lib.hid hQ
  refine wp_gj_tail (S := SKS (S := (fun b => b = p)) (fun κ => match κ with | 0 => KS.eq (.pointer (some ⟨c, 6, none⟩)) | 1 => KS.eq (v0) | 2 => KS.eq (.pointer (some ⟨p, 0, none⟩)) | 3 => KS.cl wr.heap.size (fun cl => ∀ c0, outS itemP (.ok r) = some c0 → cl = c0) (fun b e => by omega) | 4 => KS.cb wr.heap.size (fun cl => ∀ c0, outS itemP (.ok r) = some c0 → cl = c0) (fun b e => by omega) | _ => KS.any)) (C := fun l _ u => Fx (fun b => b = p) wr u ∧ (¬ up l 3 → RP u p ts en (.ok r)) ∧ (up l 3 → RP u p ts en (goS itemP (.ok r)))) 5 (by kernel_rfl) (by decide) (by kernel_rfl) (by kernel_rfl) ?_ ?_ (GJ.start ⟨(Fx.refl _ _).drew, fun _ => RP.after hp (below_dr (Below.refl _ _)), fun u => absurd u (up_none _ _)⟩)
  · intro listed a w9 i hin hr hj
    obtain ⟨hi12, hun, _, _, _⟩ := ready_mem hr
    have h12 : i ∈ List.range 5 := List.mem_range.2 hin
    simp only [List.range, List.range.loop, List.mem_cons, List.not_mem_nil, or_false] at h12
    obtain ⟨f, hae, hcm, hf, hdo, hdi⟩ := hj.open3 [22, 23, 24, 25, 26, 27, 28] (by kernel_rfl) (by kernel_rfl)
    simp only [List.foldl_cons, List.foldl_nil, List.setIfInBounds_toArray, List.set_cons_zero, List.set_cons_succ] at hae
    subst hae
    replace hcm : Fx (fun b => b = p) wr w9 ∧ (¬ up listed 3 → RP w9 p ts en (.ok r)) ∧ (up listed 3 → RP w9 p ts en (goS itemP (.ok r))) := hcm
    have hlsz : listed.size = 8 := hj.lsize
    rcases h12 with rfl | rfl | rfl | rfl | rfl
    · have kc : w9.cell? ⟨c, 6, none⟩ = some v0 := hcm.1.cell (hbx.cell 6) (by omega)
      have kl := World.block_lt_of_cell? _ _ kc
      simp only at kl
      refine GJ.op hj hdo hr rfl _ hdi (fun K hK => ?_)
      clear hj hf hdo hdi
      go_simp
      exact hK _ _ (fun k v _ _ h => h) (fun t ht => rfl) ⟨hcm.1.below (Below.refl _ _), fun u => RP.after (hcm.2.1 (fun u' => u (up_keep u'))) (Below.refl _ _), fun u => RP.after (hcm.2.2 (up_set u (by decide))) (Below.refl _ _)⟩
    · have e1 : f 22 = .pointer (some ⟨c, 6, none⟩) := hf 0 _ _ rfl rfl (up_dep hr (by kernel_rfl))
      have kc : w9.cell? ⟨c, 6, none⟩ = some v0 := hcm.1.cell (hbx.cell 6) (by omega)
      have kl := World.block_lt_of_cell? _ _ kc
      simp only at kl
      refine GJ.op hj hdo hr rfl _ hdi (fun K hK => ?_)
      clear hj hf hdo hdi
      rw [e1] at hK ⊢
      clear e1
      go_simp
      exact hK _ _ (fun k v _ _ h => h) (fun t ht => rfl) ⟨hcm.1.below (Below.refl _ _), fun u => RP.after (hcm.2.1 (fun u' => u (up_keep u'))) (Below.refl _ _), fun u => RP.after (hcm.2.2 (up_set u (by decide))) (Below.refl _ _)⟩
    · refine GJ.op hj hdo hr rfl _ hdi (fun K hK => ?_)
      clear hj hf hdo hdi
      go_simp
      exact hK _ _ (fun k v _ _ h => h) (fun t ht => rfl) ⟨hcm.1.below (Below.refl _ _), fun u => RP.after (hcm.2.1 (fun u' => u (up_keep u'))) (Below.refl _ _), fun u => RP.after (hcm.2.2 (up_set u (by decide))) (Below.refl _ _)⟩
    · have e1 : f 24 = .pointer (some ⟨p, 0, none⟩) := hf 2 _ _ rfl rfl (up_dep hr (by kernel_rfl))
      have nu : ¬ up listed 3 := not_up hun
      refine GJ.op hj hdo hr rfl _ hdi (fun K hK => ?_)
      clear hj hf hdo hdi
      rw [e1] at hK ⊢
      clear e1
      go_simp
      refine (ritem_c w9 p ts en r hen hts (hcm.2.1 nu)).mono ?_
      rintro e w10 ⟨v, cl, s2, rfl, hisc, ⟨rfl, hir⟩, hp10, hf10⟩
      exact hK _ _ (fun k v _ _ h => KS.st _ _ _ _ hf10 h) (fun t ht => ⟨cl, hir, hisc.mono (fun b hb _ => Nat.le_trans hcm.1.size hb)⟩) ⟨hcm.1.trans hf10, fun u => absurd (up_self (by rw [hlsz]; decide)) u, fun _ => hp10⟩
    · obtain ⟨cl, hpc2, vn, vi, e1, hcl⟩ : ∃ cl, (fun cl => ∀ c0, outS itemP (.ok r) = some c0 → cl = c0) cl ∧ IsC (fun b => wr.heap.size ≤ b) w9 (f 25) cl := hf 3 _ _ rfl rfl (up_dep hr (by kernel_rfl))
      refine GJ.op hj hdo hr rfl _ hdi (fun K hK => ?_)
      clear hj hf hdo hdi
      rw [e1] at hK ⊢
      clear e1
      unfold clV at hK ⊢
      go_simp
      exact hK _ _ (fun k v _ _ h => KS.st _ _ _ _ (Fx.of_below (held_alloc (Below.refl _ _))) h) (fun t ht => ⟨w9.heap.size, cl, vn, vi, hpc2, hcm.1.size, rfl, Box.new _ _ _, HasC.fx (S := fun _ => False) (Fx.of_below (held_alloc (Below.refl _ _))) (fun _ _ _ e => e) cl hcl⟩) ⟨hcm.1.below (held_alloc (Below.refl _ _)), fun u => RP.after (hcm.2.1 (fun u' => u (up_keep u'))) (held_alloc (Below.refl _ _)), fun u => RP.after (hcm.2.2 (up_set u (by decide))) (held_alloc (Below.refl _ _))⟩
  · intro listed a w10 hu hj
    obtain ⟨f, hae, hcm, hf⟩ := hj.opened [22, 23, 24, 25, 26, 27, 28] (by kernel_rfl)
    simp only [List.foldl_cons, List.foldl_nil, List.setIfInBounds_toArray, List.set_cons_zero, List.set_cons_succ] at hae
    subst hae
    replace hcm : Fx (fun b => b = p) wr w10 ∧ (¬ up listed 3 → RP w10 p ts en (.ok r)) ∧ (up listed 3 → RP w10 p ts en (goS itemP (.ok r))) := hcm
    have hlsz : listed.size = 8 := hj.lsize
    have e1 : f 23 = v0 := hf 1 _ _ rfl rfl (hu 1 (by omega))
    obtain ⟨g, cl, vn, vi, hPc, hg, e4, hbg, hCl⟩ : ∃ g cl vn vi, (fun cl => ∀ c0, outS itemP (.ok r) = some c0 → cl = c0) cl ∧ wr.heap.size ≤ g ∧ f 26 = .slice (some ⟨g, 0, none⟩) 1 1 ∧ Box w10 g (clV cl vn vi).toArray 43 ∧ HasC (fun b => wr.heap.size ≤ b) w10 vn vi cl := hf 4 _ _ rfl rfl (hu 4 (by omega))
    have hp10 := hcm.2.2 (hu 3 (by omega))
    have HF := Lib.hid hcm.1
    have HP := Lib.hid hp10
    have hown := hoc.fx hcm.1 (fun b e hb => by have := hb.1; omega)
    have hLL := HasL.fx hcm.1 (fun b hb _ e => by have := hb.1; omega) nl hol
    have HOW := Lib.hid hown
    have HLL := Lib.hid hLL
    have HB := Lib.hid (hbx.fx hcm.1 (fun e => by omega))
    have HOL := Lib.hid (hoc.lt)
    have HCl := Lib.hid hCl
    have HPC := Lib.hid hPc
    clear hcm hf hj hu hp10 hown hLL hCl hPc
    rw [e1, e4]
    clear e1 e4
    generalize f 22 = g22
    generalize f 24 = g24
    generalize f 25 = g25
    generalize f 27 = g27
    generalize f 28 = g28
    clear f
    simp only [List.drop_succ_cons, List.drop_zero]
    have hrl : (rowsOf us nl).length ≤ 1000000 := by rw [rowsOf_len hol.len]; exact hnl
    refine wpList_appC rfl (.tmp 23) (.tmp 26) 22 rfl base 43 8 96 _ Tryz.underlying22 infoC rfl (by decide) (by decide) v0 (rowsOf us nl) (clV cl vn vi) (by rfl) HOW.out rfl (one_cells HCl.out) ⟨g, 0, none⟩ 1 (by rfl) hbg.news hrl (Nat.le_trans hbs HF.out.size) (fun v2 w2 hown2 hf2 hor => ?_)
    have hS : ∀ b, some b = v0.ownBlock → base ≤ b ∧ b < wr.heap.size := fun b e => HOL.out b e
    have HO2 := Lib.hid (OwnCl.app HLL.out HCl.out hbs (fun b e => (hS b e).2) hown2 hf2 hor)
    have HP2 := Lib.hid (RP.fx HP.out hf2 (fun b e => by have := hS b e; omega))
    have HB2 := Lib.hid (HB.out.fx hf2 (fun e => by have := hS _ e; omega))
    have HF2 : Hid (Fx (fun b => b = p ∨ b = c ∨ base ≤ b) wr w2) := (HF.out.mono (fun b e => .inl e)).trans (hf2.mono (fun b e => .inr (.inr (hS b e).1)))
    obtain ⟨q, cap, rfl, _, _, _⟩ := HO2.out.shape
    have hll : (nl ++ [cl]).length = nl.length + 1 := by simp
    rw [hll] at HO2 ⊢
    clear hll hown2 hf2 hor HOW HB HP HF hbg HLL HCl
    simp only [Act.put, List.setIfInBounds_toArray, List.set_cons_zero, List.set_cons_succ]
    have k6 := HB2.out.cell 6
    have kf := HB2.out.frozen 6
    have kl := HB2.out.lt
    obtain ⟨q0, cap0, hv0, _, _, _⟩ := hoc.shape
    go_wp2_with fail
    have hfs := Fx.set w2 c 6 (.slice q (nl.length + 1) cap)
    refine hQ.out _ _ cl _ _ _ _ _ _ _ HPC.out (HO2.out.fx hfs (fun b e hb => by have := hb.1; omega) (fun b hb _ e => by have := hb.1; omega)) (RP.fx HP2.out hfs (fun b e => by omega)) (by simpa using HB2.out.set 6 (.slice q (nl.length + 1) cap)) (HF2.out.trans (hfs.mono (fun b e => .inr (.inl e))))
set_option maxRecDepth 100000 in
set_option maxHeartbeats 16000000 in
theorem rservice_c (w : World) (p : Nat) (ts : List Tok) (en : Int) (r0 : List Tok) (o : Int) (ho : In64 o) (hen : In64 en) (hts : ts.length ≤ 900000) (h : RP w p ts en (.ok r0)) : Calls Tryz.prog 41 #[.pointer (some ⟨p, 0, none⟩), .agg #[.int .u8 0, .slice none 0 0, .int .u8 0, .int .i64 0, .int .i64 0, .int .i64 0, .slice none 0 0, .int .i64 o]] w fun e w' => ∃ v c s', e = .returned v ∧ IsC (fun b => w.heap.size ≤ b) w' v c ∧ IR (bodyT 1 o) (.ok r0) c s' ∧ RP w' p ts en s' ∧ Fx (fun b => b = p) w w' := by
  have hts1 : ts.length ≤ 1000000 := by omega
  have hpw := RP.lt h
  obtain ⟨W1, hW1⟩ : ∃ W1, W1 = w.alloc (.cells #[.int .u8 1, .slice none 0 0, .int .u8 0, .int .i64 0, .int .i64 0, .int .i64 0, .slice none 0 0, .int .i64 o] 43) := ⟨_, rfl⟩
  have hb1 : Below w.heap.size w W1 := hW1 ▸ held_alloc (Below.refl _ w)
  have hs1 : W1.heap.size = w.heap.size + 1 := by rw [hW1]; simp
  have b31 : Box W1 w.heap.size #[.int .u8 1, .slice none 0 0, .int .u8 0, .int .i64 0, .int .i64 0, .int .i64 0, .slice none 0 0, .int .i64 o] 43 := hW1 ▸ Box.new w _ _
  obtain ⟨w2, hw2⟩ : ∃ w2, w2 = W1.alloc (.cells #[.int .u8 0, .slice none 0 0, .int .u8 0, .int .i64 0, .int .i64 0, .int .i64 0, .slice none 0 0, .int .i64 0] 43) := ⟨_, rfl⟩
  have hb2 : Below W1.heap.size W1 w2 := hw2 ▸ held_alloc (Below.refl _ W1)
  have b22 : Box w2 W1.heap.size #[.int .u8 0, .slice none 0 0, .int .u8 0, .int .i64 0, .int .i64 0, .int .i64 0, .slice none 0 0, .int .i64 0] 43 := hw2 ▸ Box.new W1 _ _
  have b32 := b31.after hb2
  rw [hs1] at b22
  have hs2 : w2.heap.size = w.heap.size + 2 := by rw [hw2]; simp; omega
  have hb12 : Below w.heap.size w w2 := hb1.trans (hb2.mono (by omega))
  have B33 := Lib.hid b32
  have B23 := Lib.hid b22
  have HP3 := Lib.hid (RP.after h hb12)
  have HF3 : Hid (Fx (fun b => b = p) w w2) := Fx.of_below hb12
  clear h hb1 hb2 hb12 b31 b22 b32
  go_enter Tryz.func41, Tryz.ntmps41
  go_upto_region 2 with fail
  rw [← hW1, ← hw2]
  clear hW1 hw2
  go_wp2_with fail
  refine (rname_c _ p ts en _ hts1 HP3.out).mono ?_
  rintro e w5 ⟨rfl, hp, hfx⟩
  obtain ⟨nm, hnm⟩ : ∃ n, Hid ((outS nameP (.ok r0)).getD [] = n) := ⟨_, rfl⟩
  have hnl : nm.length ≤ 9223372036854775807 := by have := RP.name HP3.out; rw [hnm.out] at this; exact this
  rw [hnm.out]
  have HP5 := Lib.hid hp
  have B35 := Lib.hid (B33.out.fx hfx (fun e => by omega))
  have B25 := Lib.hid (B23.out.fx hfx (fun e => by omega))
  have HF5 := Lib.hid (HF3.out.new hfx (fun b e => .inl e))
  have hs5 : w.heap.size + 2 ≤ w5.heap.size := by have := hfx.size; omega
  clear hp hfx HP3 B33 B23 HF3
  obtain ⟨wk, hwk⟩ : ∃ W, W = w5.setCell ⟨w.heap.size, 1, none⟩ (.slice (some ⟨w5.heap.size, 0, none⟩) 1 1) := ⟨_, rfl⟩
  have hsk : wk.heap.size = w5.heap.size := by rw [hwk]; simp [World.setCell]
  have hfk : Fx (fun b => b = w.heap.size) w5 wk := hwk ▸ Fx.set w5 _ 1 _
  obtain ⟨wn, hwn⟩ : ∃ W, W = wk.alloc (.cells #[.string (bs nm)] 9) := ⟨_, rfl⟩
  have hbn : Below wk.heap.size wk wn := hwn ▸ held_alloc (Below.refl _ _)
  have hsn : wn.heap.size = w5.heap.size + 1 := by rw [hwn]; simp [hsk]
  have hna := OwnN.one wk w.heap.size nm hnl (by omega)
  rw [← hwn, hsk] at hna
  have HNM : Hid (SlN (fun b => w.heap.size ≤ b ∧ b = w5.heap.size) wn (.slice (some ⟨w5.heap.size, 0, none⟩) 1 1) [nm]) := hna.slN.mono (fun b hb _ => ⟨hb.1, by have h := hb.2; injection h with h⟩)
  have HPn := Lib.hid ((RP.fx HP5.out hfk (fun b e => by omega)).after hbn)
  have B2n := Lib.hid ((B25.out.fx hfk (fun e => by omega)).after hbn)
  have B3n : Hid (Box wn w.heap.size #[.int .u8 1, .slice (some ⟨w5.heap.size, 0, none⟩) 1 1, .int .u8 0, .int .i64 0, .int .i64 0, .int .i64 0, .slice none 0 0, .int .i64 o] 43) := by
    have h8 : Box wk w.heap.size #[.int .u8 1, .slice (some ⟨w5.heap.size, 0, none⟩) 1 1, .int .u8 0, .int .i64 0, .int .i64 0, .int .i64 0, .slice none 0 0, .int .i64 o] 43 := by rw [hwk]; simpa using B35.out.set 1 (.slice (some ⟨w5.heap.size, 0, none⟩) 1 1)
    exact h8.after hbn
  have HFn := Lib.hid ((HF5.out.new hfk (fun b e => .inr (by omega))).below hbn)
  have z1 : w5.cell? ⟨w.heap.size, 1, none⟩ = some (.slice none 0 0) := B35.out.cell 1
  have f1 := B35.out.frozen 1
  have l1 := B35.out.lt
  clear hfk hbn hna
  go_wp2_with fail
  rw [← hwk, ← hwn]
  clear hwk hwn hsk z1 f1 l1 HP5 B35 B25 HF5
  refine (rtake_c _ p ts en _ sOpen hts1 HPn.out).mono ?_
  rintro e w6 ⟨rfl, hp, hfx⟩
  have HP6 := Lib.hid hp
  have B36 := Lib.hid (B3n.out.fx hfx (fun e => by omega))
  have B26 := Lib.hid (B2n.out.fx hfx (fun e => by omega))
  have HF6 := Lib.hid (HFn.out.new hfx (fun b e => .inl e))
  replace HNM := Lib.hid (HNM.out.fx hfx (fun b hb _ e => by have := hb.1; omega))
  have hs6 : w5.heap.size + 1 ≤ w6.heap.size := by have := hfx.size; omega
  obtain ⟨s6, hs6'⟩ : ∃ z, goS (wantP sOpen) (goS nameP (.ok r0)) = z := ⟨_, rfl⟩
  rw [hs6'] at HP6
  have HS6 := Lib.hid hs6'
  have hm6 := RP.meas HP6.out
  clear hp hfx HPn B3n B2n HFn hs6'
  go_wp2_with fail
  go_loopg [] (measS s6) (fun gn wx => ∃ s acc v0, gn = measS s ∧ acc.length + measS s ≤ 1000 + ts.length ∧ Hid (∀ n : List UInt8, goS (serM o n []) s6 = goS (serM o n acc) s ∧ outS (serM o n []) s6 = outS (serM o n acc) s) ∧ Hid (RP wx p ts en s) ∧ Hid (OwnCl (DR w6.heap.size v0) wx w6.heap.size v0 acc) ∧ Hid (Box wx w.heap.size #[.int .u8 1, .slice (some ⟨w5.heap.size, 0, none⟩) 1 1, .int .u8 0, .int .i64 0, .int .i64 0, .int .i64 0, v0, .int .i64 o] 43) ∧ Hid (Box wx (w.heap.size + 1) #[.int .u8 0, .slice none 0 0, .int .u8 0, .int .i64 0, .int .i64 0, .int .i64 0, .slice none 0 0, .int .i64 0] 43) ∧ Hid (Fx (fun b => b = p) w wx) ∧ Hid (Fx (fun b => b = p ∨ b = w.heap.size ∨ w6.heap.size ≤ b) w6 wx) ∧ w6.heap.size ≤ wx.heap.size)
  case atStart => exact ⟨s6, [], .slice none 0 0, rfl, by simp; omega, fun n => ⟨rfl, rfl⟩, HP6.out, OwnCl.nil _ _ _, B36.out, B26.out, HF6.out, Fx.refl _ _, Nat.le_refl _⟩
  case round =>
    obtain ⟨s, acc, v0, rfl, hac, hinv, HP, HO, HB, B2, HF, HFQ, hsz⟩ := hrel
    obtain ⟨q0, cap0, rfl, _, _, _⟩ := HO.out.shape
    cases s with
    | error re =>
      obtain ⟨k, v, hbp, hsp, hkp⟩ := HP.out
      have c3 : wr.cell? ⟨p, 3, none⟩ = some (.int .i64 4) := hbp.cell 3
      have lp := hbp.lt
      have hex : (∃ r, (Except.error re : Except (List Tok) (List Tok)) = .error r) ∨ isS sClose (.error re) = true := .inl ⟨re, rfl⟩
      have hsp' := Lib.hid hsp
      clear hsp hbp
      obtain ⟨s, hs⟩ : ∃ s : Except (List Tok) (List Tok), s = .error re := ⟨_, rfl⟩
      rw [← hs] at hex hinv HP
      clear hs
      have HPq := HP
      have HOq := HO
      have B3q := HB
      have B2q := B2
      have HFq := HF
      have hfq := HFQ
      clear HP HO HB B2 HF HFQ hac
      have HIT : Hid (SlC (fun b => w.heap.size ≤ b ∧ w6.heap.size ≤ b) wr (.slice q0 acc.length cap0) acc) := HOq.out.slC.mono (fun b hb _ => by rcases hb with hb | hb <;> exact ⟨by have := hb.1; omega, hb.1⟩)
      have HIR : Hid (IR (bodyT 1 o) (.ok r0) (.mk 1 [nm] 0 0 0 0 acc o) (goS (wantP sClose) s)) := by
        have hh : ∀ n, IR (serM o n []) (goS (wantP sOpen) (goS nameP (.ok r0))) (.mk 1 [n] 0 0 0 0 acc o) (goS (wantP sClose) s) := fun n => by
          obtain ⟨g1, g2⟩ := hinv.out n
          obtain ⟨k1, k2⟩ := ser_exit o n acc (s := s) hex
          rw [HS6.out]
          exact ⟨by rw [g1]; exact k1, fun c0 h => k2 c0 (by rw [← g2]; exact h)⟩
        have := ir_service o (s := .ok r0) (L := acc) hh
        rw [hnm.out] at this
        exact this
      clear HOq hinv hex
      go_wp2_with fail
      refine (rtake_c _ p ts en _ sClose hts1 HPq.out).mono ?_
      rintro e wz ⟨rfl, hp, hfx⟩
      have HPZ := Lib.hid hp
      have BZ := Lib.hid (B3q.out.fx hfx (fun e => by omega))
      have BR := Lib.hid (B2q.out.fx hfx (fun e => by omega))
      have HFZ := Lib.hid (HFq.out.new hfx (fun b e => .inl e))
      replace HNM := Lib.hid (HNM.out.fx (Fx.trans hfq.out (hfx.mono (fun b e => .inl e))) (fun b hb hlt e => by have := hb.1; have := hb.2; rcases e with e | e | e <;> omega))
      replace HIT := Lib.hid (HIT.out.fx hfx (fun b hb _ e => by have := hb.1; omega))
      clear hp hfx HPq B3q B2q HFq
      obtain ⟨z0, z1, z2, z3, z4, z5, z6, z7⟩ := BZ.out.cells8
      obtain ⟨y0, y1, y2, y3, y4, y5, y6, y7⟩ := BR.out.cells8
      obtain ⟨f0, f1, f2, f3, f4, f5, f6, f7⟩ := BR.out.frozen8
      have lb2 := BR.out.lt
      have lb3 := BZ.out.lt
      have HEN := Lib.hid (end8 BR.out (.int .u8 1) (.slice (some ⟨w5.heap.size, 0, none⟩) 1 1) (.int .u8 0) (.int .i64 0) (.int .i64 0) (.int .i64 0) (.slice q0 acc.length cap0) (.int .i64 o))
      go_wp2_with fail
      obtain ⟨e0, e1, e2, e3, e4, e5, e6, e7⟩ := HEN.out.cells8
      refine bodyPost_ret (v := .agg (clV (.mk 1 [nm] 0 0 0 0 acc o) (.slice (some ⟨w5.heap.size, 0, none⟩) 1 1) (.slice q0 acc.length cap0)).toArray) (by simp [results, Tryz.results41, go_sem, clV, Cl.kind, Cl.dom, Cl.idx, Cl.a, Cl.b, Cl.off, e0, e1, e2, e3, e4, e5, e6, e7]) rfl ?_
      have hf9 := fx_set8 wz (w.heap.size + 1) 0 (.int .u8 1) (.slice (some ⟨w5.heap.size, 0, none⟩) 1 1) (.int .u8 0) (.int .i64 0) (.int .i64 0) (.int .i64 0) (.slice q0 acc.length cap0) (.int .i64 o)
      refine ⟨_, .mk 1 [nm] 0 0 0 0 acc o, _, rfl, ⟨.slice (some ⟨w5.heap.size, 0, none⟩) 1 1, .slice q0 acc.length cap0, rfl, hasC_iff.2 ⟨nums_mk (by decide) (by decide) in0 in0 in0 ho, SlN.mono (HNM.out.fx hf9 (fun b hb _ e => by have := hb.1; have := hb.2; omega)) (fun b hb _ => hb.1), SlC.mono (HIT.out.fx hf9 (fun b hb _ e => by have := hb.1; have := hb.2; omega)) (fun b hb _ => hb.1)⟩⟩, HIR.out, RP.fx HPZ.out hf9 (fun b e => by omega), HFZ.out.new hf9 (fun b e => .inr (by omega))⟩
    | ok r =>
      obtain ⟨k, off, ⟨v, hbp, hsp, hkp⟩, hrr⟩ := HP.out
      have c3 : wr.cell? ⟨p, 3, none⟩ = some (.int .i64 0) := hbp.cell 3
      have lp := hbp.lt
      have hrr' := Lib.hid hrr
      clear hsp hbp hrr
      go_wp2_with fail
      refine (ris_c _ p ts en _ sClose HP.out).mono ?_
      rintro e wq ⟨rfl, hbq⟩
      have HPq := Lib.hid (RP.after HP.out hbq)
      have HOq := Lib.hid (HO.out.fx (S := fun _ => False) (Fx.of_below hbq) (fun _ e => e.elim) (fun _ _ _ e => e))
      have B3q := Lib.hid (HB.out.after hbq)
      have B2q := Lib.hid (B2.out.after hbq)
      have HFq := Lib.hid (HF.out.below hbq)
      have hfq := Lib.hid (HFQ.out.below hbq)
      have hszq : w6.heap.size ≤ wq.heap.size := Nat.le_trans hsz hbq.size
      clear hbq HP HO HB B2 HF HFQ hsz c3 lp
      cases hisc : isS sClose (.ok r) with
      | true =>
        have hex : (∃ z, (Except.ok r : Except (List Tok) (List Tok)) = .error z) ∨ isS sClose (.ok r) = true := .inr hisc
        obtain ⟨s, hs⟩ : ∃ s : Except (List Tok) (List Tok), s = .ok r := ⟨_, rfl⟩
        rw [← hs] at hex hinv HPq
        clear hs
        clear hisc hac
        have HIT : Hid (SlC (fun b => w.heap.size ≤ b ∧ w6.heap.size ≤ b) wq (.slice q0 acc.length cap0) acc) := HOq.out.slC.mono (fun b hb _ => by rcases hb with hb | hb <;> exact ⟨by have := hb.1; omega, hb.1⟩)
        have HIR : Hid (IR (bodyT 1 o) (.ok r0) (.mk 1 [nm] 0 0 0 0 acc o) (goS (wantP sClose) s)) := by
          have hh : ∀ n, IR (serM o n []) (goS (wantP sOpen) (goS nameP (.ok r0))) (.mk 1 [n] 0 0 0 0 acc o) (goS (wantP sClose) s) := fun n => by
            obtain ⟨g1, g2⟩ := hinv.out n
            obtain ⟨k1, k2⟩ := ser_exit o n acc (s := s) hex
            rw [HS6.out]
            exact ⟨by rw [g1]; exact k1, fun c0 h => k2 c0 (by rw [← g2]; exact h)⟩
          have := ir_service o (s := .ok r0) (L := acc) hh
          rw [hnm.out] at this
          exact this
        clear HOq hinv hex
        go_wp2_with fail
        refine (rtake_c _ p ts en _ sClose hts1 HPq.out).mono ?_
        rintro e wz ⟨rfl, hp, hfx⟩
        have HPZ := Lib.hid hp
        have BZ := Lib.hid (B3q.out.fx hfx (fun e => by omega))
        have BR := Lib.hid (B2q.out.fx hfx (fun e => by omega))
        have HFZ := Lib.hid (HFq.out.new hfx (fun b e => .inl e))
        replace HNM := Lib.hid (HNM.out.fx (Fx.trans hfq.out (hfx.mono (fun b e => .inl e))) (fun b hb hlt e => by have := hb.1; have := hb.2; rcases e with e | e | e <;> omega))
        replace HIT := Lib.hid (HIT.out.fx hfx (fun b hb _ e => by have := hb.1; omega))
        clear hp hfx HPq B3q B2q HFq
        obtain ⟨z0, z1, z2, z3, z4, z5, z6, z7⟩ := BZ.out.cells8
        obtain ⟨y0, y1, y2, y3, y4, y5, y6, y7⟩ := BR.out.cells8
        obtain ⟨f0, f1, f2, f3, f4, f5, f6, f7⟩ := BR.out.frozen8
        have lb2 := BR.out.lt
        have lb3 := BZ.out.lt
        have HEN := Lib.hid (end8 BR.out (.int .u8 1) (.slice (some ⟨w5.heap.size, 0, none⟩) 1 1) (.int .u8 0) (.int .i64 0) (.int .i64 0) (.int .i64 0) (.slice q0 acc.length cap0) (.int .i64 o))
        go_wp2_with fail
        obtain ⟨e0, e1, e2, e3, e4, e5, e6, e7⟩ := HEN.out.cells8
        refine bodyPost_ret (v := .agg (clV (.mk 1 [nm] 0 0 0 0 acc o) (.slice (some ⟨w5.heap.size, 0, none⟩) 1 1) (.slice q0 acc.length cap0)).toArray) (by simp [results, Tryz.results41, go_sem, clV, Cl.kind, Cl.dom, Cl.idx, Cl.a, Cl.b, Cl.off, e0, e1, e2, e3, e4, e5, e6, e7]) rfl ?_
        have hf9 := fx_set8 wz (w.heap.size + 1) 0 (.int .u8 1) (.slice (some ⟨w5.heap.size, 0, none⟩) 1 1) (.int .u8 0) (.int .i64 0) (.int .i64 0) (.int .i64 0) (.slice q0 acc.length cap0) (.int .i64 o)
        refine ⟨_, .mk 1 [nm] 0 0 0 0 acc o, _, rfl, ⟨.slice (some ⟨w5.heap.size, 0, none⟩) 1 1, .slice q0 acc.length cap0, rfl, hasC_iff.2 ⟨nums_mk (by decide) (by decide) in0 in0 in0 ho, SlN.mono (HNM.out.fx hf9 (fun b hb _ e => by have := hb.1; have := hb.2; omega)) (fun b hb _ => hb.1), SlC.mono (HIT.out.fx hf9 (fun b hb _ e => by have := hb.1; have := hb.2; omega)) (fun b hb _ => hb.1)⟩⟩, HIR.out, RP.fx HPZ.out hf9 (fun b e => by omega), HFZ.out.new hf9 (fun b e => .inr (by omega))⟩
      | false =>
        have HISC := Lib.hid hisc
        obtain ⟨us, hoc, hol⟩ := HOq.out
        clear hisc
        go_wp2_with fail
        refine rserv_r5 _ (by kernel_rfl) hen hts HPq.out B3q.out hoc hol (by simp [measS] at hac; omega) (by omega) (by omega) hszq ?_
        intro wz vz cz y22 y23 y24 y25 y26 y27 y28 hPc hO hP hB hF
        obtain ⟨h1, h2, h3⟩ := ser_round o [] acc (c := cz) HISC.out hPc
        have HIN : Hid (∀ n : List UInt8, goS (serM o n []) s6 = goS (serM o n (acc ++ [cz])) (goS itemP (.ok r)) ∧ outS (serM o n []) s6 = outS (serM o n (acc ++ [cz])) (goS itemP (.ok r))) := fun n => by
          obtain ⟨u1, u2⟩ := hinv.out n
          obtain ⟨v1, v2, _⟩ := ser_round o n acc (c := cz) HISC.out hPc
          exact ⟨u1.trans v1, u2.trans v2⟩
        have hll : (acc ++ [cz]).length = acc.length + 1 := by simp
        have HOz := Lib.hid hO
        have HPz := Lib.hid hP
        have HBz := Lib.hid hB
        have B2z := Lib.hid (B2q.out.fx hF (fun e => by rcases e with e | e | e <;> omega))
        have HFz := Lib.hid (HFq.out.new hF (fun b e => by rcases e with e | e | e; exact .inl e; exact .inr (by omega); exact .inr (by omega)))
        have hfz := Lib.hid (hfq.out.trans hF)
        have hszz := Nat.le_trans hszq hF.size
        clear hO hP hB hF hPc h1 h2 hinv hoc hol HPq HOq B3q B2q HFq hfq
        go_wp2_with fail
        go_roundg (measS (goS itemP (.ok r)))
        case measure => exact h3
        case rel => exact ⟨goS itemP (.ok r), acc ++ [cz], vz, rfl, by rw [hll]; simp [measS] at hac h3 ⊢; omega, HIN.out, HPz.out, HOz.out, HBz.out, B2z.out, HFz.out, hfz.out, hszz⟩
end Go.Proofs.YtganlldidjbpiaaGreatDoor
