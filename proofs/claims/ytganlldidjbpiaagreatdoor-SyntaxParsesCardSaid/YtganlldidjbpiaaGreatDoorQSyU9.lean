/- Syntax, the reference: clause. -/
import Derived.Test.YtganlldidjbpiaaGreatDoorQSyU8
set_option linter.unusedVariables false
namespace Go.Proofs.YtganlldidjbpiaaGreatDoor
open Go.RowKit Go.Shelf

set_option maxRecDepth 100000 in
set_option maxHeartbeats 16000000 in
theorem rclause_c (w : World) (p : Nat) (ts : List Tok) (en : Int) (t : Tok) (r : List Tok) (hen : In64 en) (hts1 : ts.length ≤ 900000) (h : RP w p ts en (.ok (t :: r))) : Calls Tryz.prog 24 #[.pointer (some ⟨p, 0, none⟩)] w fun e w' => ∃ v c s', e = .returned v ∧ IsC (fun b => w.heap.size ≤ b) w' v c ∧ IR topP (.ok (t :: r)) c s' ∧ RP w' p ts en s' ∧ Fx (fun b => b = p) w w' := by
  have hts : ts.length ≤ 1000000 := by omega
  have hpw := RP.lt h
  obtain ⟨W1, hW1⟩ : ∃ W1, W1 = w.alloc (.cells #[.int .u8 0, .slice none 0 0, .int .u8 0, .int .i64 0, .int .i64 0, .int .i64 0, .slice none 0 0, .int .i64 0] 43) := ⟨_, rfl⟩
  have hb1 : Below w.heap.size w W1 := hW1 ▸ held_alloc (Below.refl _ w)
  have hs1 : W1.heap.size = w.heap.size + 1 := by rw [hW1]; simp
  have B21 : Hid (Box W1 w.heap.size #[.int .u8 0, .slice none 0 0, .int .u8 0, .int .i64 0, .int .i64 0, .int .i64 0, .slice none 0 0, .int .i64 0] 43) := hW1 ▸ Box.new w _ _
  have HP1 : Hid (RP W1 p ts en (.ok (t :: r))) := RP.after h hb1
  have HF1 : Hid (Fx (fun b => b = p) w W1) := Fx.of_below hb1
  clear h hb1
  go_enter Tryz.func24, Tryz.ntmps24
  go_upto_region 1 with fail
  rw [← hW1]
  clear hW1
  obtain ⟨k0, off0, hrb, hs0⟩ := HP1.out
  go_wp2_with fail
  refine (roffset_c _ p ts en k0 0 off0 hrb).mono ?_
  rintro e w1 ⟨rfl, hb⟩
  have HP2 := Lib.hid (RP.after HP1.out hb)
  have B22 := Lib.hid (B21.out.after hb)
  have HF2 := Lib.hid (HF1.out.below hb)
  have hs2 : w.heap.size < w1.heap.size := by have := hb.size; omega
  have hoi : In64 (offE en (ts.drop k0)) := by
    rcases hd : ts.drop k0 with _ | ⟨t, r⟩
    · exact hen
    · obtain ⟨v, _, hs, _⟩ := hrb
      exact (hs.1 t (List.mem_of_mem_drop (by rw [hd]; simp))).2.2.1
  obtain ⟨o, ho⟩ : ∃ o, offE en (ts.drop k0) = o := ⟨_, rfl⟩
  rw [ho] at hoi ⊢
  rw [← hs0] at ho
  clear hb hrb HP1 B21 HF1
  obtain ⟨w2, hw2⟩ : ∃ w2, w2 = w1.alloc (.cells #[.int .u8 0, .slice none 0 0, .int .u8 0, .int .i64 0, .int .i64 0, .int .i64 0, .slice none 0 0, .int .i64 o] 43) := ⟨_, rfl⟩
  have hb2 : Below w1.heap.size w1 w2 := hw2 ▸ held_alloc (Below.refl _ w1)
  have B32 : Hid (Box w2 w1.heap.size #[.int .u8 0, .slice none 0 0, .int .u8 0, .int .i64 0, .int .i64 0, .int .i64 0, .slice none 0 0, .int .i64 o] 43) := hw2 ▸ Box.new w1 _ _
  replace HP2 := Lib.hid (RP.after HP2.out hb2)
  replace B22 := Lib.hid (B22.out.after hb2)
  replace HF2 := Lib.hid (HF2.out.below hb2)
  have hpb3 : p < w1.heap.size := by omega
  have hpb2 : p < w.heap.size := hpw
  clear hb2 hs0
  obtain ⟨k1, off1, ⟨v, hbp, hsp, hkp⟩, hrr⟩ := HP2.out
  have hlt1 : k1 < ts.length := by
    rcases Nat.lt_or_ge k1 ts.length with h | h
    · exact h
    · rw [List.drop_eq_nil_of_le h] at hrr; cases hrr
  obtain ⟨b, oo, cap, t', rfl, h2, h3, hlb, hd, hok, t0, t1, t2, t3⟩ := hsp.tok_at hlt1
  rw [hd] at hrr
  obtain ⟨rfl, _⟩ : t = t' ∧ True := by injection hrr with hrr _; exact ⟨hrr, trivial⟩
  have c0 : w2.cell? ⟨p, 0, none⟩ = some (.slice (some ⟨b, oo, none⟩) ts.length cap) := hbp.cell 0
  have c1 : w2.cell? ⟨p, 1, none⟩ = some (.int .i64 (k1 : Int)) := hbp.cell 1
  have hlp := hbp.lt
  have q1 : (k1 : Int) < (ts.length : Int) := by omega
  have q3 : (0 : Int) ≤ (k1 : Int) := by omega
  have HOF : Hid (t.off = o ∧ In64 o) := ⟨ho, hoi⟩
  obtain ⟨x, hx⟩ : ∃ x, t.text = x := ⟨_, rfl⟩
  rw [hx] at t1
  have HX := Lib.hid hx
  clear hbp hsp hrr ho hoi hx t0 t2 t3 hd hok
  go_wp2_with fail
  rw [← hw2]
  clear hw2
  go_quiet (fail)
  obtain ⟨w3, hw3⟩ : ∃ w3, w3 = w2.drewN nq := ⟨_, rfl⟩
  have hb3 : Below w2.heap.size w2 w3 := hw3 ▸ below_drewN _ _ _
  have HP3 := Lib.hid (RP.after HP2.out hb3)
  have B23 := Lib.hid (B22.out.after hb3)
  have B33 := Lib.hid (B32.out.after hb3)
  have HF3 := Lib.hid (HF2.out.below hb3)
  rw [← hw3]
  clear hw3 hb3 c0 c1 t1 q1 q3 HP2 B22 B32 HF2 hlp hlb
  obtain ⟨kk, off2, ⟨vv, hbp, hsp, hkp⟩, hrr⟩ := HP3.out
  have hkl : kk < ts.length := by
    rcases Nat.lt_or_ge kk ts.length with h | h
    · exact h
    · rw [List.drop_eq_nil_of_le h] at hrr; cases hrr
  have hkb : kk ≤ 1000000 := by omega
  obtain ⟨T0, hT0⟩ : ∃ T, sService = T := ⟨_, rfl⟩
  have u0 : (⟨#[115, 101, 114, 118, 105, 99, 101]⟩ : ByteArray) = bs T0 := by rw [← hT0]; rfl
  obtain ⟨T1, hT1⟩ : ∃ T, sWindow = T := ⟨_, rfl⟩
  have u1 : (⟨#[119, 105, 110, 100, 111, 119]⟩ : ByteArray) = bs T1 := by rw [← hT1]; rfl
  obtain ⟨T2, hT2⟩ : ∃ T, sApprove = T := ⟨_, rfl⟩
  have u2 : (⟨#[97, 112, 112, 114, 111, 118, 101]⟩ : ByteArray) = bs T2 := by rw [← hT2]; rfl
  obtain ⟨T3, hT3⟩ : ∃ T, sBlast = T := ⟨_, rfl⟩
  have u3 : (⟨#[98, 108, 97, 115, 116]⟩ : ByteArray) = bs T3 := by rw [← hT3]; rfl
  obtain ⟨T4, hT4⟩ : ∃ T, sCap = T := ⟨_, rfl⟩
  have u4 : (⟨#[99, 97, 112]⟩ : ByteArray) = bs T4 := by rw [← hT4]; rfl
  by_cases h0 : x = T0
  · have q0 : ((bs x).toList == (bs T0).toList) = true := by rw [h0]; simp
    have HTX : Hid (topK t.text = 1) := by show _ = _; rw [HX.out, h0, ← hT0]; decide
    clear h0
    have p1 : w3.cell? ⟨p, 1, none⟩ = some (.int .i64 (kk : Int)) := hbp.cell 1
    have g1 := hbp.frozen 1
    have lp := hbp.lt
    obtain ⟨w4, hw4⟩ : ∃ W, W = w3.setCell ⟨p, 1, none⟩ (.int .i64 ((kk : Int) + 1)) := ⟨_, rfl⟩
    have hf4 : Fx (fun b => b = p) w3 w4 := hw4 ▸ Fx.set w3 p 1 _
    have hbp4 : Box w4 p #[vv, .int .i64 ((kk : Int) + 1), .int .i64 en, .int .i64 0, .int .i64 off2] 54 := by rw [hw4]; simpa using hbp.set 1 (.int .i64 ((kk : Int) + 1))
    have HP4 : Hid (RP w4 p ts en (.ok r)) := ⟨kk + 1, off2, by rw [hw4]; exact RB.step ⟨vv, hbp, hsp, hkp⟩ hkl, by rw [List.drop_eq_getElem_cons hkl] at hrr; injection hrr with _ hrr⟩
    have B24 := Lib.hid (B23.out.fx hf4 (fun e => by omega))
    have B34 := Lib.hid (B33.out.fx hf4 (fun e => by omega))
    have HF4 := Lib.hid (HF3.out.new hf4 (fun b e => .inl e))
    obtain ⟨z0, z1, z2, z3, z4, z5, z6, z7⟩ := B33.out.cells8
    have lb3 := B33.out.lt
    clear hf4 hbp hbp4 hsp hrr
    go_wp2_with fail
    rw [← hw4]
    clear hw4 p1 g1 lp lb3 z0 z1 z2 z3 z4 z5 z6 z7
    refine (rservice_c w4 p ts en r o HOF.out.2 hen hts1 HP4.out).mono ?_
    rintro e w5 ⟨v, cl, s2, rfl, ⟨vn, vi, rfl, hcl⟩, hir, hp, hfx⟩
    have HP5 := Lib.hid hp
    have B25 := Lib.hid (B24.out.fx hfx (fun e => by omega))
    have HF5 := Lib.hid (HF4.out.new hfx (fun b e => .inl e))
    have HIR := Lib.hid hir
    have HCL := Lib.hid (HasC.mono (D' := fun b => w4.heap.size ≤ b) (fun b hb _ => hb) cl hcl)
    have l4 := B24.out.lt
    have hs45 := hfx.size
    obtain ⟨qn, cn, hvn, _, _, _⟩ := (hasC_iff.1 hcl).2.1.2.shape
    obtain ⟨qi, ci, hvi, _, _, _⟩ := (hasC_iff.1 hcl).2.2.shape
    subst hvn hvi
    clear hp hfx hir hcl
    obtain ⟨y0, y1, y2, y3, y4, y5, y6, y7⟩ := B25.out.cells8
    obtain ⟨f0, f1, f2, f3, f4, f5, f6, f7⟩ := B25.out.frozen8
    have lb2 := B25.out.lt
    have HEN := Lib.hid (end8 B25.out (.int .u8 (cl.kind : Int)) (.slice qn cl.names.length cn) (.int .u8 (cl.dom : Int)) (.int .i64 cl.idx) (.int .i64 cl.a) (.int .i64 cl.b) (.slice qi cl.items.length ci) (.int .i64 cl.off))
    unfold clV
    go_wp2_with fail
    obtain ⟨e0, e1, e2, e3, e4, e5, e6, e7⟩ := HEN.out.cells8
    refine bodyPost_ret (v := .agg (clV cl (.slice qn cl.names.length cn) (.slice qi cl.items.length ci)).toArray) (by simp [results, Tryz.results24, go_sem, clV, e0, e1, e2, e3, e4, e5, e6, e7]) rfl ?_
    have hf9 := fx_set8 w5 w.heap.size 0 (.int .u8 (cl.kind : Int)) (.slice qn cl.names.length cn) (.int .u8 (cl.dom : Int)) (.int .i64 cl.idx) (.int .i64 cl.a) (.int .i64 cl.b) (.slice qi cl.items.length ci) (.int .i64 cl.off)
    refine ⟨_, cl, s2, rfl, ⟨_, _, rfl, HasC.mono (fun b hb _ => by omega) cl (HasC.fx hf9 (fun b hb _ e => by omega) cl HCL.out)⟩, IR.service HTX.out (by rw [HOF.out.1]; exact HIR.out), RP.fx HP5.out hf9 (fun b e => by omega), HF5.out.new hf9 (fun b e => .inr (by omega))⟩
  have q0 := bs_eq_no h0
  by_cases h1 : x = T1
  · have q1 : ((bs x).toList == (bs T1).toList) = true := by rw [h1]; simp
    have HTX : Hid (topK t.text = 2) := by show _ = _; rw [HX.out, h1, ← hT1]; decide
    clear h0 h1
    have p1 : w3.cell? ⟨p, 1, none⟩ = some (.int .i64 (kk : Int)) := hbp.cell 1
    have g1 := hbp.frozen 1
    have lp := hbp.lt
    obtain ⟨w4, hw4⟩ : ∃ W, W = w3.setCell ⟨p, 1, none⟩ (.int .i64 ((kk : Int) + 1)) := ⟨_, rfl⟩
    have hf4 : Fx (fun b => b = p) w3 w4 := hw4 ▸ Fx.set w3 p 1 _
    have hbp4 : Box w4 p #[vv, .int .i64 ((kk : Int) + 1), .int .i64 en, .int .i64 0, .int .i64 off2] 54 := by rw [hw4]; simpa using hbp.set 1 (.int .i64 ((kk : Int) + 1))
    have HP4 : Hid (RP w4 p ts en (.ok r)) := ⟨kk + 1, off2, by rw [hw4]; exact RB.step ⟨vv, hbp, hsp, hkp⟩ hkl, by rw [List.drop_eq_getElem_cons hkl] at hrr; injection hrr with _ hrr⟩
    have B24 := Lib.hid (B23.out.fx hf4 (fun e => by omega))
    have B34 := Lib.hid (B33.out.fx hf4 (fun e => by omega))
    have HF4 := Lib.hid (HF3.out.new hf4 (fun b e => .inl e))
    have z0 : w3.cell? ⟨w1.heap.size, 0, none⟩ = some (.int .u8 0) := B33.out.cell 0
    have f0 := B33.out.frozen 0
    have lb3 := B33.out.lt
    clear hf4 hbp hbp4 hsp hrr
    obtain ⟨w5, hw5⟩ : ∃ W, W = w4.setCell ⟨w1.heap.size, 0, none⟩ (.int .u8 2) := ⟨_, rfl⟩
    have hfx : Fx (fun b => b = w1.heap.size) w4 w5 := hw5 ▸ Fx.set w4 w1.heap.size 0 _
    have HP5 := Lib.hid (RP.fx HP4.out hfx (fun b e => by omega))
    have B25 := Lib.hid (B24.out.fx hfx (fun e => by omega))
    have B35 : Hid (Box w5 w1.heap.size #[.int .u8 2, .slice none 0 0, .int .u8 0, .int .i64 0, .int .i64 0, .int .i64 0, .slice none 0 0, .int .i64 o] 43) := by show Box _ _ _ _; rw [hw5]; simpa using B34.out.set 0 (.int .u8 2)
    have HF5 := Lib.hid (HF4.out.new hfx (fun b e => .inr (by omega)))
    clear hfx
    go_wp2_with fail
    rw [← hw4, ← hw5]
    clear hw4 hw5 p1 g1 lp z0 f0 lb3
    have HIR := Lib.hid (ir_window o (.ok r))
    refine (rscope_c _ p ts en _ hts HP5.out).mono ?_
    rintro e w6 ⟨rfl, hp, hfx⟩
    have HP6 := Lib.hid hp
    have B26 := Lib.hid (B25.out.fx hfx (fun e => by omega))
    have B36 := Lib.hid (B35.out.fx hfx (fun e => by omega))
    have HF6 := Lib.hid (HF5.out.new hfx (fun b e => .inl e))
    clear hp hfx
    have HD := Lib.hid (scope_lt (.ok r))
    obtain ⟨dm, hdm⟩ : ∃ d, (outS scopeP (.ok r)).getD 0 = d := ⟨_, rfl⟩
    rw [hdm] at HD HIR ⊢
    clear hdm
    have z2 : w6.cell? ⟨w1.heap.size, 2, none⟩ = some (.int .u8 0) := B36.out.cell 2
    have f2 := B36.out.frozen 2
    have lb3 := B36.out.lt
    have lp := RP.lt HP6.out
    obtain ⟨w7, hw7⟩ : ∃ W, W = w6.setCell ⟨w1.heap.size, 2, none⟩ (.int .u8 (dm : Int)) := ⟨_, rfl⟩
    have hfx : Fx (fun b => b = w1.heap.size) w6 w7 := hw7 ▸ Fx.set w6 w1.heap.size 2 _
    have HP7 := Lib.hid (RP.fx HP6.out hfx (fun b e => by omega))
    have B27 := Lib.hid (B26.out.fx hfx (fun e => by omega))
    have B37 : Hid (Box w7 w1.heap.size #[.int .u8 2, .slice none 0 0, .int .u8 (dm : Int), .int .i64 0, .int .i64 0, .int .i64 0, .slice none 0 0, .int .i64 o] 43) := by show Box _ _ _ _; rw [hw7]; simpa using B36.out.set 2 (.int .u8 (dm : Int))
    have HF7 := Lib.hid (HF6.out.new hfx (fun b e => .inr (by omega)))
    clear hfx
    go_wp2_with fail
    rw [← hw7]
    clear hw7
    clear z2 f2 lb3 lp
    refine (rnumber_c _ p ts en _ hts HP7.out).mono ?_
    rintro e w8 ⟨rfl, hp, hfx⟩
    have HP8 := Lib.hid hp
    have B28 := Lib.hid (B27.out.fx hfx (fun e => by omega))
    have B38 := Lib.hid (B37.out.fx hfx (fun e => by omega))
    have HF8 := Lib.hid (HF7.out.new hfx (fun b e => .inl e))
    clear hp hfx
    have HZzi := Lib.hid (RP.num HP7.out)
    obtain ⟨zi, hz⟩ : ∃ z, (outS numP (goS scopeP (.ok r))).getD 0 = z := ⟨_, rfl⟩
    rw [hz] at HZzi HIR ⊢
    clear hz
    have z3 : w8.cell? ⟨w1.heap.size, 3, none⟩ = some (.int .i64 0) := B38.out.cell 3
    have f3 := B38.out.frozen 3
    have lb3 := B38.out.lt
    have lp := RP.lt HP8.out
    obtain ⟨w9, hw9⟩ : ∃ W, W = w8.setCell ⟨w1.heap.size, 3, none⟩ (.int .i64 zi) := ⟨_, rfl⟩
    have hfx : Fx (fun b => b = w1.heap.size) w8 w9 := hw9 ▸ Fx.set w8 w1.heap.size 3 _
    have HP9 := Lib.hid (RP.fx HP8.out hfx (fun b e => by omega))
    have B29 := Lib.hid (B28.out.fx hfx (fun e => by omega))
    have B39 : Hid (Box w9 w1.heap.size #[.int .u8 2, .slice none 0 0, .int .u8 (dm : Int), .int .i64 zi, .int .i64 0, .int .i64 0, .slice none 0 0, .int .i64 o] 43) := by show Box _ _ _ _; rw [hw9]; simpa using B38.out.set 3 (.int .i64 zi)
    have HF9 := Lib.hid (HF8.out.new hfx (fun b e => .inr (by omega)))
    clear hfx
    go_wp2_with fail
    rw [← hw9]
    clear hw9
    clear z3 f3 lb3 lp
    refine (rtake_c _ p ts en _ sFrom hts HP9.out).mono ?_
    rintro e w10 ⟨rfl, hp, hfx⟩
    have HP10 := Lib.hid hp
    have B210 := Lib.hid (B29.out.fx hfx (fun e => by omega))
    have B310 := Lib.hid (B39.out.fx hfx (fun e => by omega))
    have HF10 := Lib.hid (HF9.out.new hfx (fun b e => .inl e))
    clear hp hfx
    go_wp2_with fail
    refine (rnumber_c _ p ts en _ hts HP10.out).mono ?_
    rintro e w11 ⟨rfl, hp, hfx⟩
    have HP11 := Lib.hid hp
    have B211 := Lib.hid (B210.out.fx hfx (fun e => by omega))
    have B311 := Lib.hid (B310.out.fx hfx (fun e => by omega))
    have HF11 := Lib.hid (HF10.out.new hfx (fun b e => .inl e))
    clear hp hfx
    have HZza := Lib.hid (RP.num HP10.out)
    obtain ⟨za, hz⟩ : ∃ z, (outS numP (goS (wantP sFrom) (goS numP (goS scopeP (.ok r))))).getD 0 = z := ⟨_, rfl⟩
    rw [hz] at HZza HIR ⊢
    clear hz
    have z4 : w11.cell? ⟨w1.heap.size, 4, none⟩ = some (.int .i64 0) := B311.out.cell 4
    have f4 := B311.out.frozen 4
    have lb3 := B311.out.lt
    have lp := RP.lt HP11.out
    obtain ⟨w12, hw12⟩ : ∃ W, W = w11.setCell ⟨w1.heap.size, 4, none⟩ (.int .i64 za) := ⟨_, rfl⟩
    have hfx : Fx (fun b => b = w1.heap.size) w11 w12 := hw12 ▸ Fx.set w11 w1.heap.size 4 _
    have HP12 := Lib.hid (RP.fx HP11.out hfx (fun b e => by omega))
    have B212 := Lib.hid (B211.out.fx hfx (fun e => by omega))
    have B312 : Hid (Box w12 w1.heap.size #[.int .u8 2, .slice none 0 0, .int .u8 (dm : Int), .int .i64 zi, .int .i64 za, .int .i64 0, .slice none 0 0, .int .i64 o] 43) := by show Box _ _ _ _; rw [hw12]; simpa using B311.out.set 4 (.int .i64 za)
    have HF12 := Lib.hid (HF11.out.new hfx (fun b e => .inr (by omega)))
    clear hfx
    go_wp2_with fail
    rw [← hw12]
    clear hw12
    clear z4 f4 lb3 lp
    refine (rtake_c _ p ts en _ sTo hts HP12.out).mono ?_
    rintro e w13 ⟨rfl, hp, hfx⟩
    have HP13 := Lib.hid hp
    have B213 := Lib.hid (B212.out.fx hfx (fun e => by omega))
    have B313 := Lib.hid (B312.out.fx hfx (fun e => by omega))
    have HF13 := Lib.hid (HF12.out.new hfx (fun b e => .inl e))
    clear hp hfx
    go_wp2_with fail
    refine (rnumber_c _ p ts en _ hts HP13.out).mono ?_
    rintro e w14 ⟨rfl, hp, hfx⟩
    have HP14 := Lib.hid hp
    have B214 := Lib.hid (B213.out.fx hfx (fun e => by omega))
    have B314 := Lib.hid (B313.out.fx hfx (fun e => by omega))
    have HF14 := Lib.hid (HF13.out.new hfx (fun b e => .inl e))
    clear hp hfx
    have HZzb := Lib.hid (RP.num HP13.out)
    obtain ⟨zb, hz⟩ : ∃ z, (outS numP (goS (wantP sTo) (goS numP (goS (wantP sFrom) (goS numP (goS scopeP (.ok r))))))).getD 0 = z := ⟨_, rfl⟩
    rw [hz] at HZzb HIR ⊢
    clear hz
    have z5 : w14.cell? ⟨w1.heap.size, 5, none⟩ = some (.int .i64 0) := B314.out.cell 5
    have f5 := B314.out.frozen 5
    have lb3 := B314.out.lt
    have lp := RP.lt HP14.out
    obtain ⟨w15, hw15⟩ : ∃ W, W = w14.setCell ⟨w1.heap.size, 5, none⟩ (.int .i64 zb) := ⟨_, rfl⟩
    have hfx : Fx (fun b => b = w1.heap.size) w14 w15 := hw15 ▸ Fx.set w14 w1.heap.size 5 _
    have HP15 := Lib.hid (RP.fx HP14.out hfx (fun b e => by omega))
    have B215 := Lib.hid (B214.out.fx hfx (fun e => by omega))
    have B315 : Hid (Box w15 w1.heap.size #[.int .u8 2, .slice none 0 0, .int .u8 (dm : Int), .int .i64 zi, .int .i64 za, .int .i64 zb, .slice none 0 0, .int .i64 o] 43) := by show Box _ _ _ _; rw [hw15]; simpa using B314.out.set 5 (.int .i64 zb)
    have HF15 := Lib.hid (HF14.out.new hfx (fun b e => .inr (by omega)))
    clear hfx
    go_wp2_with fail
    rw [← hw15]
    clear hw15
    clear z5 f5 lb3 lp
    refine (rtake_c _ p ts en _ sSemi hts HP15.out).mono ?_
    rintro e w16 ⟨rfl, hp, hfx⟩
    have HP16 := Lib.hid hp
    have B216 := Lib.hid (B215.out.fx hfx (fun e => by omega))
    have B316 := Lib.hid (B315.out.fx hfx (fun e => by omega))
    have HF16 := Lib.hid (HF15.out.new hfx (fun b e => .inl e))
    clear hp hfx
    obtain ⟨z0, z1, z2, z3, z4, z5, z6, z7⟩ := B316.out.cells8
    obtain ⟨y0, y1, y2, y3, y4, y5, y6, y7⟩ := B216.out.cells8
    obtain ⟨f0, f1, f2, f3, f4, f5, f6, f7⟩ := B216.out.frozen8
    have lb2 := B216.out.lt
    have lb3 := B316.out.lt
    have HEN := Lib.hid (end8 B216.out (.int .u8 2) (.slice none 0 0) (.int .u8 (dm : Int)) (.int .i64 zi) (.int .i64 za) (.int .i64 zb) (.slice none 0 0) (.int .i64 o))
    go_wp2_with fail
    obtain ⟨e0, e1, e2, e3, e4, e5, e6, e7⟩ := HEN.out.cells8
    refine bodyPost_ret (v := .agg (clV (.mk 2 [] dm zi za zb [] o) (.slice none 0 0) (.slice none 0 0)).toArray) (by simp [results, Tryz.results24, go_sem, clV, Cl.kind, Cl.dom, Cl.idx, Cl.a, Cl.b, Cl.off, e0, e1, e2, e3, e4, e5, e6, e7]) rfl ?_
    have hf9 := fx_set8 w16 w.heap.size 0 (.int .u8 2) (.slice none 0 0) (.int .u8 (dm : Int)) (.int .i64 zi) (.int .i64 za) (.int .i64 zb) (.slice none 0 0) (.int .i64 o)
    refine ⟨_, .mk 2 [] dm zi za zb [] o, _, rfl, ⟨.slice none 0 0, .slice none 0 0, rfl, hasC_iff.2 ⟨nums_mk (by decide) HD.out HZzi.out HZza.out HZzb.out HOF.out.2, SlN.nil _ _, SlC.nil _ _⟩⟩, IR.top (k := 2) HTX.out (by decide) (by decide) (by rw [HOF.out.1]; exact HIR.out), RP.fx HP16.out hf9 (fun b e => by omega), HF16.out.new hf9 (fun b e => .inr (by omega))⟩
  have q1 := bs_eq_no h1
  by_cases h2 : x = T2
  · have q2 : ((bs x).toList == (bs T2).toList) = true := by rw [h2]; simp
    have HTX : Hid (topK t.text = 3) := by show _ = _; rw [HX.out, h2, ← hT2]; decide
    clear h0 h1 h2
    have p1 : w3.cell? ⟨p, 1, none⟩ = some (.int .i64 (kk : Int)) := hbp.cell 1
    have g1 := hbp.frozen 1
    have lp := hbp.lt
    obtain ⟨w4, hw4⟩ : ∃ W, W = w3.setCell ⟨p, 1, none⟩ (.int .i64 ((kk : Int) + 1)) := ⟨_, rfl⟩
    have hf4 : Fx (fun b => b = p) w3 w4 := hw4 ▸ Fx.set w3 p 1 _
    have hbp4 : Box w4 p #[vv, .int .i64 ((kk : Int) + 1), .int .i64 en, .int .i64 0, .int .i64 off2] 54 := by rw [hw4]; simpa using hbp.set 1 (.int .i64 ((kk : Int) + 1))
    have HP4 : Hid (RP w4 p ts en (.ok r)) := ⟨kk + 1, off2, by rw [hw4]; exact RB.step ⟨vv, hbp, hsp, hkp⟩ hkl, by rw [List.drop_eq_getElem_cons hkl] at hrr; injection hrr with _ hrr⟩
    have B24 := Lib.hid (B23.out.fx hf4 (fun e => by omega))
    have B34 := Lib.hid (B33.out.fx hf4 (fun e => by omega))
    have HF4 := Lib.hid (HF3.out.new hf4 (fun b e => .inl e))
    have z0 : w3.cell? ⟨w1.heap.size, 0, none⟩ = some (.int .u8 0) := B33.out.cell 0
    have f0 := B33.out.frozen 0
    have lb3 := B33.out.lt
    clear hf4 hbp hbp4 hsp hrr
    obtain ⟨w5, hw5⟩ : ∃ W, W = w4.setCell ⟨w1.heap.size, 0, none⟩ (.int .u8 3) := ⟨_, rfl⟩
    have hfx : Fx (fun b => b = w1.heap.size) w4 w5 := hw5 ▸ Fx.set w4 w1.heap.size 0 _
    have HP5 := Lib.hid (RP.fx HP4.out hfx (fun b e => by omega))
    have B25 := Lib.hid (B24.out.fx hfx (fun e => by omega))
    have B35 : Hid (Box w5 w1.heap.size #[.int .u8 3, .slice none 0 0, .int .u8 0, .int .i64 0, .int .i64 0, .int .i64 0, .slice none 0 0, .int .i64 o] 43) := by show Box _ _ _ _; rw [hw5]; simpa using B34.out.set 0 (.int .u8 3)
    have HF5 := Lib.hid (HF4.out.new hfx (fun b e => .inr (by omega)))
    clear hfx
    go_wp2_with fail
    rw [← hw4, ← hw5]
    clear hw4 hw5 p1 g1 lp z0 f0 lb3
    have HIR := Lib.hid (ir_approve o (.ok r))
    refine (rscope_c _ p ts en _ hts HP5.out).mono ?_
    rintro e w6 ⟨rfl, hp, hfx⟩
    have HP6 := Lib.hid hp
    have B26 := Lib.hid (B25.out.fx hfx (fun e => by omega))
    have B36 := Lib.hid (B35.out.fx hfx (fun e => by omega))
    have HF6 := Lib.hid (HF5.out.new hfx (fun b e => .inl e))
    clear hp hfx
    have HD := Lib.hid (scope_lt (.ok r))
    obtain ⟨dm, hdm⟩ : ∃ d, (outS scopeP (.ok r)).getD 0 = d := ⟨_, rfl⟩
    rw [hdm] at HD HIR ⊢
    clear hdm
    have z2 : w6.cell? ⟨w1.heap.size, 2, none⟩ = some (.int .u8 0) := B36.out.cell 2
    have f2 := B36.out.frozen 2
    have lb3 := B36.out.lt
    have lp := RP.lt HP6.out
    obtain ⟨w7, hw7⟩ : ∃ W, W = w6.setCell ⟨w1.heap.size, 2, none⟩ (.int .u8 (dm : Int)) := ⟨_, rfl⟩
    have hfx : Fx (fun b => b = w1.heap.size) w6 w7 := hw7 ▸ Fx.set w6 w1.heap.size 2 _
    have HP7 := Lib.hid (RP.fx HP6.out hfx (fun b e => by omega))
    have B27 := Lib.hid (B26.out.fx hfx (fun e => by omega))
    have B37 : Hid (Box w7 w1.heap.size #[.int .u8 3, .slice none 0 0, .int .u8 (dm : Int), .int .i64 0, .int .i64 0, .int .i64 0, .slice none 0 0, .int .i64 o] 43) := by show Box _ _ _ _; rw [hw7]; simpa using B36.out.set 2 (.int .u8 (dm : Int))
    have HF7 := Lib.hid (HF6.out.new hfx (fun b e => .inr (by omega)))
    clear hfx
    go_wp2_with fail
    rw [← hw7]
    clear hw7
    clear z2 f2 lb3 lp
    refine (rnumber_c _ p ts en _ hts HP7.out).mono ?_
    rintro e w8 ⟨rfl, hp, hfx⟩
    have HP8 := Lib.hid hp
    have B28 := Lib.hid (B27.out.fx hfx (fun e => by omega))
    have B38 := Lib.hid (B37.out.fx hfx (fun e => by omega))
    have HF8 := Lib.hid (HF7.out.new hfx (fun b e => .inl e))
    clear hp hfx
    have HZzi := Lib.hid (RP.num HP7.out)
    obtain ⟨zi, hz⟩ : ∃ z, (outS numP (goS scopeP (.ok r))).getD 0 = z := ⟨_, rfl⟩
    rw [hz] at HZzi HIR ⊢
    clear hz
    have z3 : w8.cell? ⟨w1.heap.size, 3, none⟩ = some (.int .i64 0) := B38.out.cell 3
    have f3 := B38.out.frozen 3
    have lb3 := B38.out.lt
    have lp := RP.lt HP8.out
    obtain ⟨w9, hw9⟩ : ∃ W, W = w8.setCell ⟨w1.heap.size, 3, none⟩ (.int .i64 zi) := ⟨_, rfl⟩
    have hfx : Fx (fun b => b = w1.heap.size) w8 w9 := hw9 ▸ Fx.set w8 w1.heap.size 3 _
    have HP9 := Lib.hid (RP.fx HP8.out hfx (fun b e => by omega))
    have B29 := Lib.hid (B28.out.fx hfx (fun e => by omega))
    have B39 : Hid (Box w9 w1.heap.size #[.int .u8 3, .slice none 0 0, .int .u8 (dm : Int), .int .i64 zi, .int .i64 0, .int .i64 0, .slice none 0 0, .int .i64 o] 43) := by show Box _ _ _ _; rw [hw9]; simpa using B38.out.set 3 (.int .i64 zi)
    have HF9 := Lib.hid (HF8.out.new hfx (fun b e => .inr (by omega)))
    clear hfx
    go_wp2_with fail
    rw [← hw9]
    clear hw9
    clear z3 f3 lb3 lp
    refine (rtake_c _ p ts en _ sSemi hts HP9.out).mono ?_
    rintro e w10 ⟨rfl, hp, hfx⟩
    have HP10 := Lib.hid hp
    have B210 := Lib.hid (B29.out.fx hfx (fun e => by omega))
    have B310 := Lib.hid (B39.out.fx hfx (fun e => by omega))
    have HF10 := Lib.hid (HF9.out.new hfx (fun b e => .inl e))
    clear hp hfx
    obtain ⟨z0, z1, z2, z3, z4, z5, z6, z7⟩ := B310.out.cells8
    obtain ⟨y0, y1, y2, y3, y4, y5, y6, y7⟩ := B210.out.cells8
    obtain ⟨f0, f1, f2, f3, f4, f5, f6, f7⟩ := B210.out.frozen8
    have lb2 := B210.out.lt
    have lb3 := B310.out.lt
    have HEN := Lib.hid (end8 B210.out (.int .u8 3) (.slice none 0 0) (.int .u8 (dm : Int)) (.int .i64 zi) (.int .i64 0) (.int .i64 0) (.slice none 0 0) (.int .i64 o))
    go_wp2_with fail
    obtain ⟨e0, e1, e2, e3, e4, e5, e6, e7⟩ := HEN.out.cells8
    refine bodyPost_ret (v := .agg (clV (.mk 3 [] dm zi 0 0 [] o) (.slice none 0 0) (.slice none 0 0)).toArray) (by simp [results, Tryz.results24, go_sem, clV, Cl.kind, Cl.dom, Cl.idx, Cl.a, Cl.b, Cl.off, e0, e1, e2, e3, e4, e5, e6, e7]) rfl ?_
    have hf9 := fx_set8 w10 w.heap.size 0 (.int .u8 3) (.slice none 0 0) (.int .u8 (dm : Int)) (.int .i64 zi) (.int .i64 0) (.int .i64 0) (.slice none 0 0) (.int .i64 o)
    refine ⟨_, .mk 3 [] dm zi 0 0 [] o, _, rfl, ⟨.slice none 0 0, .slice none 0 0, rfl, hasC_iff.2 ⟨nums_mk (by decide) HD.out HZzi.out in0 in0 HOF.out.2, SlN.nil _ _, SlC.nil _ _⟩⟩, IR.top (k := 3) HTX.out (by decide) (by decide) (by rw [HOF.out.1]; exact HIR.out), RP.fx HP10.out hf9 (fun b e => by omega), HF10.out.new hf9 (fun b e => .inr (by omega))⟩
  have q2 := bs_eq_no h2
  by_cases h3 : x = T3
  · have q3 : ((bs x).toList == (bs T3).toList) = true := by rw [h3]; simp
    have HTX : Hid (topK t.text = 4) := by show _ = _; rw [HX.out, h3, ← hT3]; decide
    clear h0 h1 h2 h3
    have p1 : w3.cell? ⟨p, 1, none⟩ = some (.int .i64 (kk : Int)) := hbp.cell 1
    have g1 := hbp.frozen 1
    have lp := hbp.lt
    obtain ⟨w4, hw4⟩ : ∃ W, W = w3.setCell ⟨p, 1, none⟩ (.int .i64 ((kk : Int) + 1)) := ⟨_, rfl⟩
    have hf4 : Fx (fun b => b = p) w3 w4 := hw4 ▸ Fx.set w3 p 1 _
    have hbp4 : Box w4 p #[vv, .int .i64 ((kk : Int) + 1), .int .i64 en, .int .i64 0, .int .i64 off2] 54 := by rw [hw4]; simpa using hbp.set 1 (.int .i64 ((kk : Int) + 1))
    have HP4 : Hid (RP w4 p ts en (.ok r)) := ⟨kk + 1, off2, by rw [hw4]; exact RB.step ⟨vv, hbp, hsp, hkp⟩ hkl, by rw [List.drop_eq_getElem_cons hkl] at hrr; injection hrr with _ hrr⟩
    have B24 := Lib.hid (B23.out.fx hf4 (fun e => by omega))
    have B34 := Lib.hid (B33.out.fx hf4 (fun e => by omega))
    have HF4 := Lib.hid (HF3.out.new hf4 (fun b e => .inl e))
    have z0 : w3.cell? ⟨w1.heap.size, 0, none⟩ = some (.int .u8 0) := B33.out.cell 0
    have f0 := B33.out.frozen 0
    have lb3 := B33.out.lt
    clear hf4 hbp hbp4 hsp hrr
    obtain ⟨w5, hw5⟩ : ∃ W, W = w4.setCell ⟨w1.heap.size, 0, none⟩ (.int .u8 4) := ⟨_, rfl⟩
    have hfx : Fx (fun b => b = w1.heap.size) w4 w5 := hw5 ▸ Fx.set w4 w1.heap.size 0 _
    have HP5 := Lib.hid (RP.fx HP4.out hfx (fun b e => by omega))
    have B25 := Lib.hid (B24.out.fx hfx (fun e => by omega))
    have B35 : Hid (Box w5 w1.heap.size #[.int .u8 4, .slice none 0 0, .int .u8 0, .int .i64 0, .int .i64 0, .int .i64 0, .slice none 0 0, .int .i64 o] 43) := by show Box _ _ _ _; rw [hw5]; simpa using B34.out.set 0 (.int .u8 4)
    have HF5 := Lib.hid (HF4.out.new hfx (fun b e => .inr (by omega)))
    clear hfx
    go_wp2_with fail
    rw [← hw4, ← hw5]
    clear hw4 hw5 p1 g1 lp z0 f0 lb3
    have HIR := Lib.hid (ir_blast o (.ok r))
    refine (rnumber_c _ p ts en _ hts HP5.out).mono ?_
    rintro e w6 ⟨rfl, hp, hfx⟩
    have HP6 := Lib.hid hp
    have B26 := Lib.hid (B25.out.fx hfx (fun e => by omega))
    have B36 := Lib.hid (B35.out.fx hfx (fun e => by omega))
    have HF6 := Lib.hid (HF5.out.new hfx (fun b e => .inl e))
    clear hp hfx
    have HZza := Lib.hid (RP.num HP5.out)
    obtain ⟨za, hz⟩ : ∃ z, (outS numP (.ok r)).getD 0 = z := ⟨_, rfl⟩
    rw [hz] at HZza HIR ⊢
    clear hz
    have z4 : w6.cell? ⟨w1.heap.size, 4, none⟩ = some (.int .i64 0) := B36.out.cell 4
    have f4 := B36.out.frozen 4
    have lb3 := B36.out.lt
    have lp := RP.lt HP6.out
    obtain ⟨w7, hw7⟩ : ∃ W, W = w6.setCell ⟨w1.heap.size, 4, none⟩ (.int .i64 za) := ⟨_, rfl⟩
    have hfx : Fx (fun b => b = w1.heap.size) w6 w7 := hw7 ▸ Fx.set w6 w1.heap.size 4 _
    have HP7 := Lib.hid (RP.fx HP6.out hfx (fun b e => by omega))
    have B27 := Lib.hid (B26.out.fx hfx (fun e => by omega))
    have B37 : Hid (Box w7 w1.heap.size #[.int .u8 4, .slice none 0 0, .int .u8 0, .int .i64 0, .int .i64 za, .int .i64 0, .slice none 0 0, .int .i64 o] 43) := by show Box _ _ _ _; rw [hw7]; simpa using B36.out.set 4 (.int .i64 za)
    have HF7 := Lib.hid (HF6.out.new hfx (fun b e => .inr (by omega)))
    clear hfx
    go_wp2_with fail
    rw [← hw7]
    clear hw7
    clear z4 f4 lb3 lp
    refine (rtake_c _ p ts en _ sSemi hts HP7.out).mono ?_
    rintro e w8 ⟨rfl, hp, hfx⟩
    have HP8 := Lib.hid hp
    have B28 := Lib.hid (B27.out.fx hfx (fun e => by omega))
    have B38 := Lib.hid (B37.out.fx hfx (fun e => by omega))
    have HF8 := Lib.hid (HF7.out.new hfx (fun b e => .inl e))
    clear hp hfx
    obtain ⟨z0, z1, z2, z3, z4, z5, z6, z7⟩ := B38.out.cells8
    obtain ⟨y0, y1, y2, y3, y4, y5, y6, y7⟩ := B28.out.cells8
    obtain ⟨f0, f1, f2, f3, f4, f5, f6, f7⟩ := B28.out.frozen8
    have lb2 := B28.out.lt
    have lb3 := B38.out.lt
    have HEN := Lib.hid (end8 B28.out (.int .u8 4) (.slice none 0 0) (.int .u8 0) (.int .i64 0) (.int .i64 za) (.int .i64 0) (.slice none 0 0) (.int .i64 o))
    go_wp2_with fail
    obtain ⟨e0, e1, e2, e3, e4, e5, e6, e7⟩ := HEN.out.cells8
    refine bodyPost_ret (v := .agg (clV (.mk 4 [] 0 0 za 0 [] o) (.slice none 0 0) (.slice none 0 0)).toArray) (by simp [results, Tryz.results24, go_sem, clV, Cl.kind, Cl.dom, Cl.idx, Cl.a, Cl.b, Cl.off, e0, e1, e2, e3, e4, e5, e6, e7]) rfl ?_
    have hf9 := fx_set8 w8 w.heap.size 0 (.int .u8 4) (.slice none 0 0) (.int .u8 0) (.int .i64 0) (.int .i64 za) (.int .i64 0) (.slice none 0 0) (.int .i64 o)
    refine ⟨_, .mk 4 [] 0 0 za 0 [] o, _, rfl, ⟨.slice none 0 0, .slice none 0 0, rfl, hasC_iff.2 ⟨nums_mk (by decide) (by decide) in0 HZza.out in0 HOF.out.2, SlN.nil _ _, SlC.nil _ _⟩⟩, IR.top (k := 4) HTX.out (by decide) (by decide) (by rw [HOF.out.1]; exact HIR.out), RP.fx HP8.out hf9 (fun b e => by omega), HF8.out.new hf9 (fun b e => .inr (by omega))⟩
  have q3 := bs_eq_no h3
  by_cases h4 : x = T4
  · have q4 : ((bs x).toList == (bs T4).toList) = true := by rw [h4]; simp
    have HTX : Hid (topK t.text = 5) := by show _ = _; rw [HX.out, h4, ← hT4]; decide
    clear h0 h1 h2 h3 h4
    have p1 : w3.cell? ⟨p, 1, none⟩ = some (.int .i64 (kk : Int)) := hbp.cell 1
    have g1 := hbp.frozen 1
    have lp := hbp.lt
    obtain ⟨w4, hw4⟩ : ∃ W, W = w3.setCell ⟨p, 1, none⟩ (.int .i64 ((kk : Int) + 1)) := ⟨_, rfl⟩
    have hf4 : Fx (fun b => b = p) w3 w4 := hw4 ▸ Fx.set w3 p 1 _
    have hbp4 : Box w4 p #[vv, .int .i64 ((kk : Int) + 1), .int .i64 en, .int .i64 0, .int .i64 off2] 54 := by rw [hw4]; simpa using hbp.set 1 (.int .i64 ((kk : Int) + 1))
    have HP4 : Hid (RP w4 p ts en (.ok r)) := ⟨kk + 1, off2, by rw [hw4]; exact RB.step ⟨vv, hbp, hsp, hkp⟩ hkl, by rw [List.drop_eq_getElem_cons hkl] at hrr; injection hrr with _ hrr⟩
    have B24 := Lib.hid (B23.out.fx hf4 (fun e => by omega))
    have B34 := Lib.hid (B33.out.fx hf4 (fun e => by omega))
    have HF4 := Lib.hid (HF3.out.new hf4 (fun b e => .inl e))
    have z0 : w3.cell? ⟨w1.heap.size, 0, none⟩ = some (.int .u8 0) := B33.out.cell 0
    have f0 := B33.out.frozen 0
    have lb3 := B33.out.lt
    clear hf4 hbp hbp4 hsp hrr
    obtain ⟨w5, hw5⟩ : ∃ W, W = w4.setCell ⟨w1.heap.size, 0, none⟩ (.int .u8 5) := ⟨_, rfl⟩
    have hfx : Fx (fun b => b = w1.heap.size) w4 w5 := hw5 ▸ Fx.set w4 w1.heap.size 0 _
    have HP5 := Lib.hid (RP.fx HP4.out hfx (fun b e => by omega))
    have B25 := Lib.hid (B24.out.fx hfx (fun e => by omega))
    have B35 : Hid (Box w5 w1.heap.size #[.int .u8 5, .slice none 0 0, .int .u8 0, .int .i64 0, .int .i64 0, .int .i64 0, .slice none 0 0, .int .i64 o] 43) := by show Box _ _ _ _; rw [hw5]; simpa using B34.out.set 0 (.int .u8 5)
    have HF5 := Lib.hid (HF4.out.new hfx (fun b e => .inr (by omega)))
    clear hfx
    go_wp2_with fail
    rw [← hw4, ← hw5]
    clear hw4 hw5 p1 g1 lp z0 f0 lb3
    have HIR := Lib.hid (ir_cap o (.ok r))
    refine (rtake_c _ p ts en _ sFeed hts HP5.out).mono ?_
    rintro e w6 ⟨rfl, hp, hfx⟩
    have HP6 := Lib.hid hp
    have B26 := Lib.hid (B25.out.fx hfx (fun e => by omega))
    have B36 := Lib.hid (B35.out.fx hfx (fun e => by omega))
    have HF6 := Lib.hid (HF5.out.new hfx (fun b e => .inl e))
    clear hp hfx
    go_wp2_with fail
    refine (rnumber_c _ p ts en _ hts HP6.out).mono ?_
    rintro e w7 ⟨rfl, hp, hfx⟩
    have HP7 := Lib.hid hp
    have B27 := Lib.hid (B26.out.fx hfx (fun e => by omega))
    have B37 := Lib.hid (B36.out.fx hfx (fun e => by omega))
    have HF7 := Lib.hid (HF6.out.new hfx (fun b e => .inl e))
    clear hp hfx
    have HZzi := Lib.hid (RP.num HP6.out)
    obtain ⟨zi, hz⟩ : ∃ z, (outS numP (goS (wantP sFeed) (.ok r))).getD 0 = z := ⟨_, rfl⟩
    rw [hz] at HZzi HIR ⊢
    clear hz
    have z3 : w7.cell? ⟨w1.heap.size, 3, none⟩ = some (.int .i64 0) := B37.out.cell 3
    have f3 := B37.out.frozen 3
    have lb3 := B37.out.lt
    have lp := RP.lt HP7.out
    obtain ⟨w8, hw8⟩ : ∃ W, W = w7.setCell ⟨w1.heap.size, 3, none⟩ (.int .i64 zi) := ⟨_, rfl⟩
    have hfx : Fx (fun b => b = w1.heap.size) w7 w8 := hw8 ▸ Fx.set w7 w1.heap.size 3 _
    have HP8 := Lib.hid (RP.fx HP7.out hfx (fun b e => by omega))
    have B28 := Lib.hid (B27.out.fx hfx (fun e => by omega))
    have B38 : Hid (Box w8 w1.heap.size #[.int .u8 5, .slice none 0 0, .int .u8 0, .int .i64 zi, .int .i64 0, .int .i64 0, .slice none 0 0, .int .i64 o] 43) := by show Box _ _ _ _; rw [hw8]; simpa using B37.out.set 3 (.int .i64 zi)
    have HF8 := Lib.hid (HF7.out.new hfx (fun b e => .inr (by omega)))
    clear hfx
    go_wp2_with fail
    rw [← hw8]
    clear hw8
    clear z3 f3 lb3 lp
    refine (rtake_c _ p ts en _ sAt hts HP8.out).mono ?_
    rintro e w9 ⟨rfl, hp, hfx⟩
    have HP9 := Lib.hid hp
    have B29 := Lib.hid (B28.out.fx hfx (fun e => by omega))
    have B39 := Lib.hid (B38.out.fx hfx (fun e => by omega))
    have HF9 := Lib.hid (HF8.out.new hfx (fun b e => .inl e))
    clear hp hfx
    go_wp2_with fail
    refine (rnumber_c _ p ts en _ hts HP9.out).mono ?_
    rintro e w10 ⟨rfl, hp, hfx⟩
    have HP10 := Lib.hid hp
    have B210 := Lib.hid (B29.out.fx hfx (fun e => by omega))
    have B310 := Lib.hid (B39.out.fx hfx (fun e => by omega))
    have HF10 := Lib.hid (HF9.out.new hfx (fun b e => .inl e))
    clear hp hfx
    have HZza := Lib.hid (RP.num HP9.out)
    obtain ⟨za, hz⟩ : ∃ z, (outS numP (goS (wantP sAt) (goS numP (goS (wantP sFeed) (.ok r))))).getD 0 = z := ⟨_, rfl⟩
    rw [hz] at HZza HIR ⊢
    clear hz
    have z4 : w10.cell? ⟨w1.heap.size, 4, none⟩ = some (.int .i64 0) := B310.out.cell 4
    have f4 := B310.out.frozen 4
    have lb3 := B310.out.lt
    have lp := RP.lt HP10.out
    obtain ⟨w11, hw11⟩ : ∃ W, W = w10.setCell ⟨w1.heap.size, 4, none⟩ (.int .i64 za) := ⟨_, rfl⟩
    have hfx : Fx (fun b => b = w1.heap.size) w10 w11 := hw11 ▸ Fx.set w10 w1.heap.size 4 _
    have HP11 := Lib.hid (RP.fx HP10.out hfx (fun b e => by omega))
    have B211 := Lib.hid (B210.out.fx hfx (fun e => by omega))
    have B311 : Hid (Box w11 w1.heap.size #[.int .u8 5, .slice none 0 0, .int .u8 0, .int .i64 zi, .int .i64 za, .int .i64 0, .slice none 0 0, .int .i64 o] 43) := by show Box _ _ _ _; rw [hw11]; simpa using B310.out.set 4 (.int .i64 za)
    have HF11 := Lib.hid (HF10.out.new hfx (fun b e => .inr (by omega)))
    clear hfx
    go_wp2_with fail
    rw [← hw11]
    clear hw11
    clear z4 f4 lb3 lp
    refine (rtake_c _ p ts en _ sSemi hts HP11.out).mono ?_
    rintro e w12 ⟨rfl, hp, hfx⟩
    have HP12 := Lib.hid hp
    have B212 := Lib.hid (B211.out.fx hfx (fun e => by omega))
    have B312 := Lib.hid (B311.out.fx hfx (fun e => by omega))
    have HF12 := Lib.hid (HF11.out.new hfx (fun b e => .inl e))
    clear hp hfx
    obtain ⟨z0, z1, z2, z3, z4, z5, z6, z7⟩ := B312.out.cells8
    obtain ⟨y0, y1, y2, y3, y4, y5, y6, y7⟩ := B212.out.cells8
    obtain ⟨f0, f1, f2, f3, f4, f5, f6, f7⟩ := B212.out.frozen8
    have lb2 := B212.out.lt
    have lb3 := B312.out.lt
    have HEN := Lib.hid (end8 B212.out (.int .u8 5) (.slice none 0 0) (.int .u8 0) (.int .i64 zi) (.int .i64 za) (.int .i64 0) (.slice none 0 0) (.int .i64 o))
    go_wp2_with fail
    obtain ⟨e0, e1, e2, e3, e4, e5, e6, e7⟩ := HEN.out.cells8
    refine bodyPost_ret (v := .agg (clV (.mk 5 [] 0 zi za 0 [] o) (.slice none 0 0) (.slice none 0 0)).toArray) (by simp [results, Tryz.results24, go_sem, clV, Cl.kind, Cl.dom, Cl.idx, Cl.a, Cl.b, Cl.off, e0, e1, e2, e3, e4, e5, e6, e7]) rfl ?_
    have hf9 := fx_set8 w12 w.heap.size 0 (.int .u8 5) (.slice none 0 0) (.int .u8 0) (.int .i64 zi) (.int .i64 za) (.int .i64 0) (.slice none 0 0) (.int .i64 o)
    refine ⟨_, .mk 5 [] 0 zi za 0 [] o, _, rfl, ⟨.slice none 0 0, .slice none 0 0, rfl, hasC_iff.2 ⟨nums_mk (by decide) (by decide) HZzi.out HZza.out in0 HOF.out.2, SlN.nil _ _, SlC.nil _ _⟩⟩, IR.top (k := 5) HTX.out (by decide) (by decide) (by rw [HOF.out.1]; exact HIR.out), RP.fx HP12.out hf9 (fun b e => by omega), HF12.out.new hf9 (fun b e => .inr (by omega))⟩
  have q4 := bs_eq_no h4
  have HIRF : Hid (IR topP (.ok (t :: r)) (.mk 0 [] 0 0 0 0 [] o) (failS (.ok (t :: r)))) := IR.fail (t := t) (r := r) _ (by rw [topP_at, if_pos]; unfold topK; rw [HX.out]; simp only [hT0, hT1, hT2, hT3, hT4]; simp [h0, h1, h2, h3, h4])
  clear h0 h1 h2 h3 h4
  have p1 : w3.cell? ⟨p, 1, none⟩ = some (.int .i64 (kk : Int)) := hbp.cell 1
  have g1 := hbp.frozen 1
  have lp := hbp.lt
  have c4 : (kk : Int) + 1 - 1 = (kk : Int) := by omega
  obtain ⟨w5, hw5⟩ : ∃ W, W = (w3.setCell ⟨p, 1, none⟩ (.int .i64 ((kk : Int) + 1))).setCell ⟨p, 1, none⟩ (.int .i64 (kk : Int)) := ⟨_, rfl⟩
  have hf5 : Fx (fun b => b = p) w3 w5 := hw5 ▸ (Fx.set w3 p 1 _).trans (Fx.set _ p 1 _)
  have HP5 : Hid (RP w5 p ts en (.ok (t :: r))) := ⟨kk, off2, ⟨vv, by rw [hw5]; simpa using (hbp.set 1 (.int .i64 ((kk : Int) + 1))).set 1 (.int .i64 (kk : Int)), hsp.fx hf5 (fun b hb _ e => by omega), hkp⟩, hrr⟩
  have B25 := Lib.hid (B23.out.fx hf5 (fun e => by omega))
  have B35 := Lib.hid (B33.out.fx hf5 (fun e => by omega))
  have HF5 := Lib.hid (HF3.out.new hf5 (fun b e => .inl e))
  clear hf5 hbp hsp hrr
  go_wp2_with fail
  first | rw [← hw5] | (rw [c4, ← hw5]) | (rw [← World.set_set, ← hw5])
  clear hw5 p1 g1 lp c4
  refine (rfail_c _ p ts en _ HP5.out).mono ?_
  rintro e w6 ⟨rfl, hp, hfx⟩
  have HP6 := Lib.hid hp
  have B26 := Lib.hid (B25.out.fx hfx (fun e => by omega))
  have B36 := Lib.hid (B35.out.fx hfx (fun e => by omega))
  have HF6 := Lib.hid (HF5.out.new hfx (fun b e => .inl e))
  clear hp hfx
  obtain ⟨z0, z1, z2, z3, z4, z5, z6, z7⟩ := B36.out.cells8
  obtain ⟨y0, y1, y2, y3, y4, y5, y6, y7⟩ := B26.out.cells8
  obtain ⟨f0, f1, f2, f3, f4, f5, f6, f7⟩ := B26.out.frozen8
  have lb2 := B26.out.lt
  have lb3 := B36.out.lt
  have HEN := Lib.hid (end8 B26.out (.int .u8 0) (.slice none 0 0) (.int .u8 0) (.int .i64 0) (.int .i64 0) (.int .i64 0) (.slice none 0 0) (.int .i64 o))
  go_wp2_with fail
  obtain ⟨e0, e1, e2, e3, e4, e5, e6, e7⟩ := HEN.out.cells8
  refine bodyPost_ret (v := .agg (clV (.mk 0 [] 0 0 0 0 [] o) (.slice none 0 0) (.slice none 0 0)).toArray) (by simp [results, Tryz.results24, go_sem, clV, Cl.kind, Cl.dom, Cl.idx, Cl.a, Cl.b, Cl.off, e0, e1, e2, e3, e4, e5, e6, e7]) rfl ?_
  have hf9 := fx_set8 w6 w.heap.size 0 (.int .u8 0) (.slice none 0 0) (.int .u8 0) (.int .i64 0) (.int .i64 0) (.int .i64 0) (.slice none 0 0) (.int .i64 o)
  refine ⟨_, .mk 0 [] 0 0 0 0 [] o, _, rfl, ⟨.slice none 0 0, .slice none 0 0, rfl, hasC_iff.2 ⟨nums_mk (by decide) (by decide) in0 in0 in0 HOF.out.2, SlN.nil _ _, SlC.nil _ _⟩⟩, HIRF.out, RP.fx HP6.out hf9 (fun b e => by omega), HF6.out.new hf9 (fun b e => .inr (by omega))⟩
end Go.Proofs.YtganlldidjbpiaaGreatDoor
