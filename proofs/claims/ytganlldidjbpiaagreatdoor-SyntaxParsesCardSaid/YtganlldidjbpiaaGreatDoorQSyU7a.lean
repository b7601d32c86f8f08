/- Syntax, the reference: names that are read and appended. -/
import Derived.Test.YtganlldidjbpiaaGreatDoorQSyU6
import Derived.Test.YtganlldidjbpiaaGreatDoorK09
set_option linter.unusedVariables false
namespace Go.Proofs.YtganlldidjbpiaaGreatDoor
open Go.RowKit Go.Shelf

def moreM (o : Int) (nl : List (List UInt8)) (ts : List Tok) : PR Cl := andP (moreP ts) fun l r => .ok (Cl.mk 10 (nl ++ l) 0 0 0 0 [] o, r)
def measS : Except (List Tok) (List Tok) → Nat
  | .ok r => r.length + 1
  | .error _ => 0
theorem more_exit (o : Int) (nl : List (List UInt8)) {s : Except (List Tok) (List Tok)} (h : isS sComma s = false) : IR (moreM o nl) s (.mk 10 nl 0 0 0 0 [] o) s := by
  match s, h with
  | .error r, _ => exact ⟨rfl, fun c0 h => by cases h⟩
  | .ok r, h =>
    have e : moreP r = .ok ([], r) := by
      rw [moreP_have]
      rcases r with _ | ⟨t, r⟩
      · rfl
      · have ht : (t.text == sComma) = false := by
          have : decide (t.text = sComma) = false := h
          simpa using this
        rw [haveF_no ht]; rfl
    have e2 : moreM o nl r = .ok (.mk 10 nl 0 0 0 0 [] o, r) := by unfold moreM; rw [e]; simp [andP]
    refine ⟨?_, fun c0 h => ?_⟩
    · unfold goS; simp only [e2]
    · unfold outS at h; simp only [e2] at h; injection h
theorem more_round (o : Int) (nl : List (List UInt8)) {t : Tok} {r : List Tok} (h : t.text = sComma) : goS (moreM o nl) (.ok (t :: r)) = goS (moreM o (nl ++ [(outS nameP (.ok r)).getD []])) (goS nameP (.ok r)) ∧ outS (moreM o nl) (.ok (t :: r)) = outS (moreM o (nl ++ [(outS nameP (.ok r)).getD []])) (goS nameP (.ok r)) ∧ measS (goS nameP (.ok r)) < measS (.ok (t :: r)) := by
  have ht : (t.text == sComma) = true := by rw [h]; simp
  have e : moreP (t :: r) = andP (nameP r) fun n r => andP (moreP r) fun l r => .ok (n :: l, r) := by rw [moreP_have, haveF_yes ht]; rfl
  rcases hn : nameP r with z | ⟨n, r1⟩
  · have e2 : moreM o nl (t :: r) = .error z := by unfold moreM; rw [e, hn]; rfl
    have g1 : goS nameP (.ok r) = .error z := by unfold goS; simp only [hn]
    refine ⟨?_, ?_, ?_⟩
    · rw [g1]; unfold goS; simp only [e2]
    · rw [g1]; unfold outS; simp only [e2]
    · rw [g1]; unfold measS; simp
  · have g1 : goS nameP (.ok r) = .ok r1 := by unfold goS; simp only [hn]
    have g2 : outS nameP (.ok r) = some n := by unfold outS; simp only [hn]
    have hl : r.length = r1.length + 1 := by obtain ⟨t', e', _⟩ := nameP_len hn; rw [e']; rfl
    have e2 : moreM o nl (t :: r) = moreM o (nl ++ [n]) r1 := by
      unfold moreM
      rw [e, hn]
      simp only [andP]
      rcases moreP r1 with z | ⟨l, r2⟩
      · rfl
      · simp
    rw [g1, g2]
    refine ⟨?_, ?_, ?_⟩
    · unfold goS; simp only [e2]; rfl
    · unfold outS; simp only [e2]; rfl
    · unfold measS; simp; omega
theorem ir_apart (o : Int) {s s2 : Except (List Tok) (List Tok)} {L : List (List UInt8)} (h : ∀ n, IR (moreM o [n]) (goS nameP s) (.mk 10 (n :: L) 0 0 0 0 [] o) s2) : IR (fun ts => semiP (bodyI 10 o ts)) s (.mk 10 ((outS nameP s).getD [] :: L) 0 0 0 0 [] o) (goS (wantP sSemi) s2) := by
  refine IR.semi ?_
  refine IR.congr (x := fun ts => andP (nameP ts) fun n r => moreM o [n] r) ?_ (fun r => by unfold bodyI; rw [if_neg (by decide), if_pos rfl]; rfl)
  exact IR.step (c := fun n => Cl.mk 10 (n :: L) 0 0 0 0 [] o) [] h
set_option maxRecDepth 100000 in
set_option maxHeartbeats 8000000 in
theorem ritem_r24 (ops : Array Oper) (hops : (Tryz.f86.body.bind (regOf 24)) = some ops) {wr : World} {p c base : Nat} {ts : List Tok} {en : Int} {s : Except (List Tok) (List Tok)} {n : List UInt8} {nl : List (List UInt8)} {k v0 d i a b vi o : Value} {Q : Exit → Act → World → Prop} {x1 x2 x4 x5 x6 x7 x8 x9 x10 x11 x12 x13 x14 x15 x16 x17 x18 x19 x20 x21 x22 x23 x24 x25 x26 x27 x28 x29 x30 x31 x32 x33 x34 x35 x36 x37 x38 x39 x40 x41 x42 x43 x44 x45 x46 x47 x48 x49 x50 x51 x52 x53 x54 x55 x56 x57 x58 x59 x60 x61 x62 x63 x64 x65 x66 x67 x68 x69 x70 x71 x72 x73 x74 x75 x76 x77 x78 x79 x80 x81 x82 x83 x84 x85 x86 x87 x88 x89 x90 x91 x92 x93 x94 x95 x96 x97 x98 x99 x100 x101 x102 x103 x104 x105 x106 x107 x108 x109 x110 x111 x112 : Value}
    (hts : ts.length ≤ 1000000) (hp : RP wr p ts en s) (hn : Hid ((outS nameP s).getD [] = n)) (hlen : n.length ≤ 9223372036854775807) (hbx : Box wr c #[k, v0, d, i, a, b, vi, o] 43) (ho : OwnN wr base v0 nl) (hnl : nl.length ≤ 1000000) (hpc : p < c) (hcb : c < base) (hbs : base ≤ wr.heap.size)
    (hQ : ∀ (W : World) (v' : Value) (y64 y65 y66 y67 y68 y69 y70 : Value), OwnN W base v' (nl ++ [n]) → RP W p ts en (goS nameP s) → Box W c #[k, v', d, i, a, b, vi, o] 43 → Fx (fun b => b = p ∨ b = c ∨ base ≤ b) wr W → Q .normal ⟨[.pointer (some ⟨p, 0, none⟩), x1, x2, .pointer (some ⟨c, 0, none⟩), x4, x5, x6, x7, x8, x9, x10, x11, x12, x13, x14, x15, x16, x17, x18, x19, x20, x21, x22, x23, x24, x25, x26, x27, x28, x29, x30, x31, x32, x33, x34, x35, x36, x37, x38, x39, x40, x41, x42, x43, x44, x45, x46, x47, x48, x49, x50, x51, x52, x53, x54, x55, x56, x57, x58, x59, x60, x61, x62, x63, y64, y65, y66, y67, y68, y69, y70, x71, x72, x73, x74, x75, x76, x77, x78, x79, x80, x81, x82, x83, x84, x85, x86, x87, x88, x89, x90, x91, x92, x93, x94, x95, x96, x97, x98, x99, x100, x101, x102, x103, x104, x105, x106, x107, x108, x109, x110, x111, x112].toArray, []⟩ W) :
    (Code.region 24 ops true).wp Tryz.prog Q ⟨[.pointer (some ⟨p, 0, none⟩), x1, x2, .pointer (some ⟨c, 0, none⟩), x4, x5, x6, x7, x8, x9, x10, x11, x12, x13, x14, x15, x16, x17, x18, x19, x20, x21, x22, x23, x24, x25, x26, x27, x28, x29, x30, x31, x32, x33, x34, x35, x36, x37, x38, x39, x40, x41, x42, x43, x44, x45, x46, x47, x48, x49, x50, x51, x52, x53, x54, x55, x56, x57, x58, x59, x60, x61, x62, x63, x64, x65, x66, x67, x68, x69, x70, x71, x72, x73, x74, x75, x76, x77, x78, x79, x80, x81, x82, x83, x84, x85, x86, x87, x88, x89, x90, x91, x92, x93, x94, x95, x96, x97, x98, x99, x100, x101, x102, x103, x104, x105, x106, x107, x108, x109, x110, x111, x112].toArray, []⟩ wr := by
  simp only [Tryz.f86, Option.bind_some, regOf] at hops
  replace hops := Option.some.inj hops
  subst hops
  replace hQ := Lib.hid hQ
  refine wp_gj_tail (S := SKS (S := (fun b => b = p)) (fun κ => match κ with | 0 => KS.eq (.pointer (some ⟨c, 1, none⟩)) | 1 => KS.eq (v0) | 2 => KS.eq (.pointer (some ⟨p, 0, none⟩)) | 3 => KS.eq (.string (bs n)) | 4 => KS.blk wr.heap.size #[.string (bs n)] 9 (fun b e => by omega) | _ => KS.any)) (C := fun l _ u => Fx (fun b => b = p) wr u ∧ (¬ up l 3 → RP u p ts en s) ∧ (up l 3 → RP u p ts en (goS nameP s))) 5 (by kernel_rfl) (by decide) (by kernel_rfl) (by kernel_rfl) ?_ ?_ (GJ.start ⟨(Fx.refl _ _).drew, fun _ => RP.after hp (below_dr (Below.refl _ _)), fun u => absurd u (up_none _ _)⟩)
  · intro listed a w9 i hin hr hj
    obtain ⟨hi12, hun, _, _, _⟩ := ready_mem hr
    have h12 : i ∈ List.range 5 := List.mem_range.2 hin
    simp only [List.range, List.range.loop, List.mem_cons, List.not_mem_nil, or_false] at h12
    obtain ⟨f, hae, hcm, hf, hdo, hdi⟩ := hj.open3 [64, 65, 66, 67, 68, 69, 70] (by kernel_rfl) (by kernel_rfl)
    simp only [List.foldl_cons, List.foldl_nil, List.setIfInBounds_toArray, List.set_cons_zero, List.set_cons_succ] at hae
    subst hae
    replace hcm : Fx (fun b => b = p) wr w9 ∧ (¬ up listed 3 → RP w9 p ts en s) ∧ (up listed 3 → RP w9 p ts en (goS nameP s)) := hcm
    have hlsz : listed.size = 8 := hj.lsize
    rcases h12 with rfl | rfl | rfl | rfl | rfl
    · have kc : w9.cell? ⟨c, 1, none⟩ = some v0 := hcm.1.cell (hbx.cell 1) (by omega)
      have kl := World.block_lt_of_cell? _ _ kc
      simp only at kl
      refine GJ.op hj hdo hr rfl _ hdi (fun K hK => ?_)
      clear hj hf hdo hdi
      go_simp
      exact hK _ _ (fun k v _ _ h => h) (fun t ht => rfl) ⟨hcm.1.below (Below.refl _ _), fun u => RP.after (hcm.2.1 (fun u' => u (up_keep u'))) (Below.refl _ _), fun u => RP.after (hcm.2.2 (up_set u (by decide))) (Below.refl _ _)⟩
    · have e1 : f 64 = .pointer (some ⟨c, 1, none⟩) := hf 0 _ _ rfl rfl (up_dep hr (by kernel_rfl))
      have kc : w9.cell? ⟨c, 1, none⟩ = some v0 := hcm.1.cell (hbx.cell 1) (by omega)
      have kl := World.block_lt_of_cell? _ _ kc
      simp only at kl
      refine GJ.op hj hdo hr rfl _ hdi (fun K hK => ?_)
      clear hj hf hdo hdi
      rw [e1] at hK ⊢
      clear e1
      go_simp
      exact hK _ _ (fun k v _ _ h => h) (fun t ht => rfl) ⟨hcm.1.below (Below.refl _ _), fun u => RP.after (hcm.2.1 (fun u' => u (up_keep u'))) (Below.refl _ _), fun u => RP.after (hcm.2.2 (up_set u (by decide))) (Below.refl _ _)⟩
    · refine GJ.op hj hdo hr rfl _ hdi (fun K hK => ?_)
      clear hj hf hdo hdi
      go_simp
      exact hK _ _ (fun k v _ _ h => h) (fun t ht => rfl) ⟨hcm.1.below (Below.refl _ _), fun u => RP.after (hcm.2.1 (fun u' => u (up_keep u'))) (Below.refl _ _), fun u => RP.after (hcm.2.2 (up_set u (by decide))) (Below.refl _ _)⟩
    · have e1 : f 66 = .pointer (some ⟨p, 0, none⟩) := hf 2 _ _ rfl rfl (up_dep hr (by kernel_rfl))
      have nu : ¬ up listed 3 := not_up hun
      refine GJ.op hj hdo hr rfl _ hdi (fun K hK => ?_)
      clear hj hf hdo hdi
      rw [e1] at hK ⊢
      clear e1
      go_simp
      refine (rname_c w9 p ts en s hts (hcm.2.1 nu)).mono ?_
      unfold RR
      rw [hn.out]
      rintro e w10 ⟨rfl, hp10, hf10⟩
      exact hK _ _ (fun k v _ _ h => KS.st _ _ _ _ hf10 h) (fun t ht => rfl) ⟨hcm.1.trans hf10, fun u => absurd (up_self (by rw [hlsz]; decide)) u, fun _ => hp10⟩
    · have e1 : f 67 = .string (bs n) := hf 3 _ _ rfl rfl (up_dep hr (by kernel_rfl))
      refine GJ.op hj hdo hr rfl _ hdi (fun K hK => ?_)
      clear hj hf hdo hdi
      rw [e1] at hK ⊢
      clear e1
      go_simp
      exact hK _ _ (fun k v _ _ h => KS.st _ _ _ _ (Fx.of_below (held_alloc (Below.refl _ _))) h) (fun t ht => ⟨w9.heap.size, hcm.1.size, rfl, Box.new _ _ _⟩) ⟨hcm.1.below (held_alloc (Below.refl _ _)), fun u => RP.after (hcm.2.1 (fun u' => u (up_keep u'))) (held_alloc (Below.refl _ _)), fun u => RP.after (hcm.2.2 (up_set u (by decide))) (held_alloc (Below.refl _ _))⟩
  · intro listed a w10 hu hj
    obtain ⟨f, hae, hcm, hf⟩ := hj.opened [64, 65, 66, 67, 68, 69, 70] (by kernel_rfl)
    simp only [List.foldl_cons, List.foldl_nil, List.setIfInBounds_toArray, List.set_cons_zero, List.set_cons_succ] at hae
    subst hae
    replace hcm : Fx (fun b => b = p) wr w10 ∧ (¬ up listed 3 → RP w10 p ts en s) ∧ (up listed 3 → RP w10 p ts en (goS nameP s)) := hcm
    have hlsz : listed.size = 8 := hj.lsize
    have e1 : f 65 = v0 := hf 1 _ _ rfl rfl (hu 1 (by omega))
    obtain ⟨g, hg, e4, hbg⟩ : ∃ g, wr.heap.size ≤ g ∧ f 68 = .slice (some ⟨g, 0, none⟩) 1 1 ∧ Box w10 g #[.string (bs n)] 9 := hf 4 _ _ rfl rfl (hu 4 (by omega))
    have hp10 := hcm.2.2 (hu 3 (by omega))
    have HF := Lib.hid hcm.1
    have HP := Lib.hid hp10
    have hown := ho.fx hcm.1 (fun b e hb => by have := hb.1; omega)
    have HOW := Lib.hid hown
    have HB := Lib.hid (hbx.fx hcm.1 (fun e => by omega))
    have HOL := Lib.hid (hown.2.lt)
    clear hcm hf hj hu hp10 hown
    rw [e1, e4]
    clear e1 e4
    generalize f 64 = g64
    generalize f 66 = g66
    generalize f 67 = g67
    generalize f 69 = g69
    generalize f 70 = g70
    clear f
    simp only [List.drop_succ_cons, List.drop_zero]
    refine wpList_appC rfl (.tmp 65) (.tmp 68) 40 rfl base 9 1 16 _ Tryz.underlying40 infoS rfl (by decide) (by decide) v0 (nl.map fun n => [Value.string (bs n)]) [Value.string (bs n)] (by rfl) HOW.out.2 rfl (by simp [Value.oneCell']) ⟨g, 0, none⟩ 1 (by rfl) hbg.news (by rw [List.length_map]; exact hnl) (Nat.le_trans hbs HF.out.size) (fun v2 w2 hown2 hf2 hor => ?_)
    have HO2 := Lib.hid (HOW.out.snoc hlen hown2)
    have hS : ∀ b, some b = v0.ownBlock → base ≤ b := fun b e => (HOL.out b e).1
    have HP2 := Lib.hid (RP.fx HP.out hf2 (fun b e => by have := hS b e; omega))
    have HB2 := Lib.hid (HB.out.fx hf2 (fun e => by have := hS _ e; omega))
    have HF2 : Hid (Fx (fun b => b = p ∨ b = c ∨ base ≤ b) wr w2) := (HF.out.mono (fun b e => .inl e)).trans (hf2.mono (fun b e => .inr (.inr (hS b e))))
    obtain ⟨q, cap, rfl, _, _, _⟩ := HO2.out.shape
    have hll : (nl ++ [n]).length = nl.length + 1 := by simp
    rw [hll] at HO2 ⊢
    clear hll hown2 hf2 hor HOW HB HP HF hbg
    simp only [Act.put, List.setIfInBounds_toArray, List.set_cons_zero, List.set_cons_succ]
    have k1 := HB2.out.cell 1
    have kf := HB2.out.frozen 1
    have kl := HB2.out.lt
    obtain ⟨q0, cap0, hv0, _, _, _⟩ := ho.shape
    go_wp2_with fail
    have hfs := Fx.set w2 c 1 (.slice q (nl.length + 1) cap)
    refine hQ.out _ _ _ _ _ _ _ _ _ (HO2.out.fx hfs (fun b e hb => by have := hb.1; omega)) (RP.fx HP2.out hfs (fun b e => by omega)) (by simpa using HB2.out.set 1 (.slice q (nl.length + 1) cap)) (HF2.out.trans (hfs.mono (fun b e => .inr (.inl e))))
set_option maxRecDepth 100000 in
set_option maxHeartbeats 8000000 in
theorem ritem_r27 (ops : Array Oper) (hops : (Tryz.f86.body.bind (regOf 27)) = some ops) {wr : World} {p c base : Nat} {ts : List Tok} {en : Int} {s : Except (List Tok) (List Tok)} {n : List UInt8} {nl : List (List UInt8)} {k v0 d i a b vi o : Value} {Q : Exit → Act → World → Prop} {x1 x2 x4 x5 x6 x7 x8 x9 x10 x11 x12 x13 x14 x15 x16 x17 x18 x19 x20 x21 x22 x23 x24 x25 x26 x27 x28 x29 x30 x31 x32 x33 x34 x35 x36 x37 x38 x39 x40 x41 x42 x43 x44 x45 x46 x47 x48 x49 x50 x51 x52 x53 x54 x55 x56 x57 x58 x59 x60 x61 x62 x63 x64 x65 x66 x67 x68 x69 x70 x71 x72 x73 x74 x75 x76 x77 x78 x79 x80 x81 x82 x83 x84 x85 x86 x87 x88 x89 x90 x91 x92 x93 x94 x95 x96 x97 x98 x99 x100 x101 x102 x103 x104 x105 x106 x107 x108 x109 x110 x111 x112 : Value}
    (hts : ts.length ≤ 1000000) (hp : RP wr p ts en s) (hn : Hid ((outS nameP s).getD [] = n)) (hlen : n.length ≤ 9223372036854775807) (hbx : Box wr c #[k, v0, d, i, a, b, vi, o] 43) (ho : OwnN wr base v0 nl) (hnl : nl.length ≤ 1000000) (hpc : p < c) (hcb : c < base) (hbs : base ≤ wr.heap.size)
    (hQ : ∀ (W : World) (v' : Value) (y80 y81 y82 y83 y84 y85 y86 : Value), OwnN W base v' (nl ++ [n]) → RP W p ts en (goS nameP s) → Box W c #[k, v', d, i, a, b, vi, o] 43 → Fx (fun b => b = p ∨ b = c ∨ base ≤ b) wr W → Q .normal ⟨[.pointer (some ⟨p, 0, none⟩), x1, x2, .pointer (some ⟨c, 0, none⟩), x4, x5, x6, x7, x8, x9, x10, x11, x12, x13, x14, x15, x16, x17, x18, x19, x20, x21, x22, x23, x24, x25, x26, x27, x28, x29, x30, x31, x32, x33, x34, x35, x36, x37, x38, x39, x40, x41, x42, x43, x44, x45, x46, x47, x48, x49, x50, x51, x52, x53, x54, x55, x56, x57, x58, x59, x60, x61, x62, x63, x64, x65, x66, x67, x68, x69, x70, x71, x72, x73, x74, x75, x76, x77, x78, x79, y80, y81, y82, y83, y84, y85, y86, x87, x88, x89, x90, x91, x92, x93, x94, x95, x96, x97, x98, x99, x100, x101, x102, x103, x104, x105, x106, x107, x108, x109, x110, x111, x112].toArray, []⟩ W) :
    (Code.region 27 ops true).wp Tryz.prog Q ⟨[.pointer (some ⟨p, 0, none⟩), x1, x2, .pointer (some ⟨c, 0, none⟩), x4, x5, x6, x7, x8, x9, x10, x11, x12, x13, x14, x15, x16, x17, x18, x19, x20, x21, x22, x23, x24, x25, x26, x27, x28, x29, x30, x31, x32, x33, x34, x35, x36, x37, x38, x39, x40, x41, x42, x43, x44, x45, x46, x47, x48, x49, x50, x51, x52, x53, x54, x55, x56, x57, x58, x59, x60, x61, x62, x63, x64, x65, x66, x67, x68, x69, x70, x71, x72, x73, x74, x75, x76, x77, x78, x79, x80, x81, x82, x83, x84, x85, x86, x87, x88, x89, x90, x91, x92, x93, x94, x95, x96, x97, x98, x99, x100, x101, x102, x103, x104, x105, x106, x107, x108, x109, x110, x111, x112].toArray, []⟩ wr := by
  simp only [Tryz.f86, Option.bind_some, regOf] at hops
  replace hops := Option.some.inj hops
  subst hops
  replace hQ := Lib.hid hQ
  refine wp_gj_tail (S := SKS (S := (fun b => b = p)) (fun κ => match κ with | 0 => KS.eq (.pointer (some ⟨c, 1, none⟩)) | 1 => KS.eq (v0) | 2 => KS.eq (.pointer (some ⟨p, 0, none⟩)) | 3 => KS.eq (.string (bs n)) | 4 => KS.blk wr.heap.size #[.string (bs n)] 9 (fun b e => by omega) | _ => KS.any)) (C := fun l _ u => Fx (fun b => b = p) wr u ∧ (¬ up l 3 → RP u p ts en s) ∧ (up l 3 → RP u p ts en (goS nameP s))) 5 (by kernel_rfl) (by decide) (by kernel_rfl) (by kernel_rfl) ?_ ?_ (GJ.start ⟨(Fx.refl _ _).drew, fun _ => RP.after hp (below_dr (Below.refl _ _)), fun u => absurd u (up_none _ _)⟩)
  · intro listed a w9 i hin hr hj
    obtain ⟨hi12, hun, _, _, _⟩ := ready_mem hr
    have h12 : i ∈ List.range 5 := List.mem_range.2 hin
    simp only [List.range, List.range.loop, List.mem_cons, List.not_mem_nil, or_false] at h12
    obtain ⟨f, hae, hcm, hf, hdo, hdi⟩ := hj.open3 [80, 81, 82, 83, 84, 85, 86] (by kernel_rfl) (by kernel_rfl)
    simp only [List.foldl_cons, List.foldl_nil, List.setIfInBounds_toArray, List.set_cons_zero, List.set_cons_succ] at hae
    subst hae
    replace hcm : Fx (fun b => b = p) wr w9 ∧ (¬ up listed 3 → RP w9 p ts en s) ∧ (up listed 3 → RP w9 p ts en (goS nameP s)) := hcm
    have hlsz : listed.size = 8 := hj.lsize
    rcases h12 with rfl | rfl | rfl | rfl | rfl
    · have kc : w9.cell? ⟨c, 1, none⟩ = some v0 := hcm.1.cell (hbx.cell 1) (by omega)
      have kl := World.block_lt_of_cell? _ _ kc
      simp only at kl
      refine GJ.op hj hdo hr rfl _ hdi (fun K hK => ?_)
      clear hj hf hdo hdi
      go_simp
      exact hK _ _ (fun k v _ _ h => h) (fun t ht => rfl) ⟨hcm.1.below (Below.refl _ _), fun u => RP.after (hcm.2.1 (fun u' => u (up_keep u'))) (Below.refl _ _), fun u => RP.after (hcm.2.2 (up_set u (by decide))) (Below.refl _ _)⟩
    · have e1 : f 80 = .pointer (some ⟨c, 1, none⟩) := hf 0 _ _ rfl rfl (up_dep hr (by kernel_rfl))
      have kc : w9.cell? ⟨c, 1, none⟩ = some v0 := hcm.1.cell (hbx.cell 1) (by omega)
      have kl := World.block_lt_of_cell? _ _ kc
      simp only at kl
      refine GJ.op hj hdo hr rfl _ hdi (fun K hK => ?_)
      clear hj hf hdo hdi
      rw [e1] at hK ⊢
      clear e1
      go_simp
      exact hK _ _ (fun k v _ _ h => h) (fun t ht => rfl) ⟨hcm.1.below (Below.refl _ _), fun u => RP.after (hcm.2.1 (fun u' => u (up_keep u'))) (Below.refl _ _), fun u => RP.after (hcm.2.2 (up_set u (by decide))) (Below.refl _ _)⟩
    · refine GJ.op hj hdo hr rfl _ hdi (fun K hK => ?_)
      clear hj hf hdo hdi
      go_simp
      exact hK _ _ (fun k v _ _ h => h) (fun t ht => rfl) ⟨hcm.1.below (Below.refl _ _), fun u => RP.after (hcm.2.1 (fun u' => u (up_keep u'))) (Below.refl _ _), fun u => RP.after (hcm.2.2 (up_set u (by decide))) (Below.refl _ _)⟩
    · have e1 : f 82 = .pointer (some ⟨p, 0, none⟩) := hf 2 _ _ rfl rfl (up_dep hr (by kernel_rfl))
      have nu : ¬ up listed 3 := not_up hun
      refine GJ.op hj hdo hr rfl _ hdi (fun K hK => ?_)
      clear hj hf hdo hdi
      rw [e1] at hK ⊢
      clear e1
      go_simp
      refine (rname_c w9 p ts en s hts (hcm.2.1 nu)).mono ?_
      unfold RR
      rw [hn.out]
      rintro e w10 ⟨rfl, hp10, hf10⟩
      exact hK _ _ (fun k v _ _ h => KS.st _ _ _ _ hf10 h) (fun t ht => rfl) ⟨hcm.1.trans hf10, fun u => absurd (up_self (by rw [hlsz]; decide)) u, fun _ => hp10⟩
    · have e1 : f 83 = .string (bs n) := hf 3 _ _ rfl rfl (up_dep hr (by kernel_rfl))
      refine GJ.op hj hdo hr rfl _ hdi (fun K hK => ?_)
      clear hj hf hdo hdi
      rw [e1] at hK ⊢
      clear e1
      go_simp
      exact hK _ _ (fun k v _ _ h => KS.st _ _ _ _ (Fx.of_below (held_alloc (Below.refl _ _))) h) (fun t ht => ⟨w9.heap.size, hcm.1.size, rfl, Box.new _ _ _⟩) ⟨hcm.1.below (held_alloc (Below.refl _ _)), fun u => RP.after (hcm.2.1 (fun u' => u (up_keep u'))) (held_alloc (Below.refl _ _)), fun u => RP.after (hcm.2.2 (up_set u (by decide))) (held_alloc (Below.refl _ _))⟩
  · intro listed a w10 hu hj
    obtain ⟨f, hae, hcm, hf⟩ := hj.opened [80, 81, 82, 83, 84, 85, 86] (by kernel_rfl)
    simp only [List.foldl_cons, List.foldl_nil, List.setIfInBounds_toArray, List.set_cons_zero, List.set_cons_succ] at hae
    subst hae
    replace hcm : Fx (fun b => b = p) wr w10 ∧ (¬ up listed 3 → RP w10 p ts en s) ∧ (up listed 3 → RP w10 p ts en (goS nameP s)) := hcm
    have hlsz : listed.size = 8 := hj.lsize
    have e1 : f 81 = v0 := hf 1 _ _ rfl rfl (hu 1 (by omega))
    obtain ⟨g, hg, e4, hbg⟩ : ∃ g, wr.heap.size ≤ g ∧ f 84 = .slice (some ⟨g, 0, none⟩) 1 1 ∧ Box w10 g #[.string (bs n)] 9 := hf 4 _ _ rfl rfl (hu 4 (by omega))
    have hp10 := hcm.2.2 (hu 3 (by omega))
    have HF := Lib.hid hcm.1
    have HP := Lib.hid hp10
    have hown := ho.fx hcm.1 (fun b e hb => by have := hb.1; omega)
    have HOW := Lib.hid hown
    have HB := Lib.hid (hbx.fx hcm.1 (fun e => by omega))
    have HOL := Lib.hid (hown.2.lt)
    clear hcm hf hj hu hp10 hown
    rw [e1, e4]
    clear e1 e4
    generalize f 80 = g80
    generalize f 82 = g82
    generalize f 83 = g83
    generalize f 85 = g85
    generalize f 86 = g86
    clear f
    simp only [List.drop_succ_cons, List.drop_zero]
    refine wpList_appC rfl (.tmp 81) (.tmp 84) 40 rfl base 9 1 16 _ Tryz.underlying40 infoS rfl (by decide) (by decide) v0 (nl.map fun n => [Value.string (bs n)]) [Value.string (bs n)] (by rfl) HOW.out.2 rfl (by simp [Value.oneCell']) ⟨g, 0, none⟩ 1 (by rfl) hbg.news (by rw [List.length_map]; exact hnl) (Nat.le_trans hbs HF.out.size) (fun v2 w2 hown2 hf2 hor => ?_)
    have HO2 := Lib.hid (HOW.out.snoc hlen hown2)
    have hS : ∀ b, some b = v0.ownBlock → base ≤ b := fun b e => (HOL.out b e).1
    have HP2 := Lib.hid (RP.fx HP.out hf2 (fun b e => by have := hS b e; omega))
    have HB2 := Lib.hid (HB.out.fx hf2 (fun e => by have := hS _ e; omega))
    have HF2 : Hid (Fx (fun b => b = p ∨ b = c ∨ base ≤ b) wr w2) := (HF.out.mono (fun b e => .inl e)).trans (hf2.mono (fun b e => .inr (.inr (hS b e))))
    obtain ⟨q, cap, rfl, _, _, _⟩ := HO2.out.shape
    have hll : (nl ++ [n]).length = nl.length + 1 := by simp
    rw [hll] at HO2 ⊢
    clear hll hown2 hf2 hor HOW HB HP HF hbg
    simp only [Act.put, List.setIfInBounds_toArray, List.set_cons_zero, List.set_cons_succ]
    have k1 := HB2.out.cell 1
    have kf := HB2.out.frozen 1
    have kl := HB2.out.lt
    obtain ⟨q0, cap0, hv0, _, _, _⟩ := ho.shape
    go_wp2_with fail
    have hfs := Fx.set w2 c 1 (.slice q (nl.length + 1) cap)
    refine hQ.out _ _ _ _ _ _ _ _ _ (HO2.out.fx hfs (fun b e hb => by have := hb.1; omega)) (RP.fx HP2.out hfs (fun b e => by omega)) (by simpa using HB2.out.set 1 (.slice q (nl.length + 1) cap)) (HF2.out.trans (hfs.mono (fun b e => .inr (.inl e))))
end Go.Proofs.YtganlldidjbpiaaGreatDoor
