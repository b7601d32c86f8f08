/- Syntax, the reference: item. -/
import Derived.Test.YtganlldidjbpiaaGreatDoorQSyU7a
set_option linter.unusedVariables false
namespace Go.Proofs.YtganlldidjbpiaaGreatDoor
open Go.RowKit Go.Shelf

theorem RP.meas {w : World} {p : Nat} {ts : List Tok} {en : Int} {s : Except (List Tok) (List Tok)} (h : RP w p ts en s) : measS s ≤ ts.length + 1 := by
  cases s with
  | ok r => obtain ⟨k, off, _, rfl⟩ := h; show (ts.drop k).length + 1 ≤ _; rw [List.length_drop]; omega
  | error r => exact Nat.zero_le _
theorem in0 : In64 0 := ⟨by decide, by decide⟩
theorem nums_mk {k d : Nat} {n : List (List UInt8)} {i a b o : Int} {l : List Cl} (hk : k < 256) (hd : d < 256) (hi : In64 i) (ha : In64 a) (hb : In64 b) (ho : In64 o) : nums (.mk k n d i a b l o) := ⟨hk, hd, hi, ha, hb, ho⟩
set_option maxRecDepth 100000 in
set_option maxHeartbeats 16000000 in
theorem ritem_c (w : World) (p : Nat) (ts : List Tok) (en : Int) (s : List Tok) (hen : In64 en) (hts1 : ts.length ≤ 900000) (h : RP w p ts en (.ok s)) : Calls Tryz.prog 86 #[.pointer (some ⟨p, 0, none⟩)] w fun e w' => ∃ v c s', e = .returned v ∧ IsC (fun b => w.heap.size ≤ b) w' v c ∧ IR itemP (.ok s) c s' ∧ RP w' p ts en s' ∧ Fx (fun b => b = p) w w' := by
  have hts : ts.length ≤ 1000000 := by omega
  have hpw := RP.lt h
  obtain ⟨W1, hW1⟩ : ∃ W1, W1 = w.alloc (.cells #[.int .u8 0, .slice none 0 0, .int .u8 0, .int .i64 0, .int .i64 0, .int .i64 0, .slice none 0 0, .int .i64 0] 43) := ⟨_, rfl⟩
  have hb1 : Below w.heap.size w W1 := hW1 ▸ held_alloc (Below.refl _ w)
  have hs1 : W1.heap.size = w.heap.size + 1 := by rw [hW1]; simp
  have B21 : Hid (Box W1 w.heap.size #[.int .u8 0, .slice none 0 0, .int .u8 0, .int .i64 0, .int .i64 0, .int .i64 0, .slice none 0 0, .int .i64 0] 43) := hW1 ▸ Box.new w _ _
  have HP1 : Hid (RP W1 p ts en (.ok s)) := RP.after h hb1
  have HF1 : Hid (Fx (fun b => b = p) w W1) := Fx.of_below hb1
  clear h hb1
  go_enter Tryz.func86, Tryz.ntmps86
  go_upto_region 1 with fail
  rw [← hW1]
  clear hW1
  obtain ⟨k0, off0, hrb, hs0⟩ := HP1.out
  go_wp2_with fail
  refine (roffset_c _ p ts en k0 0 off0 hrb).mono ?_
  rintro e w1 ⟨rfl, hb⟩
  have HP2 := Lib.hid (RP.after HP1.out hb)
  have B22 := Lib.hid (B21.out.after hb)
  have HF2 := Lib.hid (HF1.out.below hb)
  have hs2 : w.heap.size < w1.heap.size := by have := hb.size; omega
  have hoi : In64 (offE en (ts.drop k0)) := by
    rcases hd : ts.drop k0 with _ | ⟨t, r⟩
    · exact hen
    · obtain ⟨v, _, hs, _⟩ := hrb
      exact (hs.1 t (List.mem_of_mem_drop (by rw [hd]; simp))).2.2.1
  obtain ⟨o, ho⟩ : ∃ o, offE en (ts.drop k0) = o := ⟨_, rfl⟩
  rw [ho] at hoi ⊢
  rw [← hs0] at ho
  clear hb hrb HP1 B21 HF1
  obtain ⟨w2, hw2⟩ : ∃ w2, w2 = w1.alloc (.cells #[.int .u8 0, .slice none 0 0, .int .u8 0, .int .i64 0, .int .i64 0, .int .i64 0, .slice none 0 0, .int .i64 o] 43) := ⟨_, rfl⟩
  have hb2 : Below w1.heap.size w1 w2 := hw2 ▸ held_alloc (Below.refl _ w1)
  have B32 : Hid (Box w2 w1.heap.size #[.int .u8 0, .slice none 0 0, .int .u8 0, .int .i64 0, .int .i64 0, .int .i64 0, .slice none 0 0, .int .i64 o] 43) := hw2 ▸ Box.new w1 _ _
  replace HP2 := Lib.hid (RP.after HP2.out hb2)
  replace B22 := Lib.hid (B22.out.after hb2)
  replace HF2 := Lib.hid (HF2.out.below hb2)
  have hpb3 : p < w1.heap.size := by omega
  have hpb2 : p < w.heap.size := hpw
  clear hb2 hs0
  -- the next token, if there is one
  rcases s with _ | ⟨t, r⟩
  · obtain ⟨k1, off1, ⟨v, hbp, hsp, hkp⟩, hrr⟩ := HP2.out
    obtain ⟨a0, cap0, rfl, _⟩ := hsp.2.shape
    have c0 : w2.cell? ⟨p, 0, none⟩ = some (.slice a0 ts.length cap0) := hbp.cell 0
    have c1 : w2.cell? ⟨p, 1, none⟩ = some (.int .i64 (k1 : Int)) := hbp.cell 1
    have hlp := hbp.lt
    have hge : ts.length ≤ k1 := by
      rcases Nat.lt_or_ge k1 ts.length with h | h
      · rw [List.drop_eq_getElem_cons h] at hrr; cases hrr
      · exact h
    have q1 : ¬ (k1 : Int) < (ts.length : Int) := by omega
    have q2 : decide ((k1 : Int) < (ts.length : Int)) = false := decide_eq_false q1
    have HIRF : Hid (IR itemP (.ok []) (.mk 0 [] 0 0 0 0 [] o) (failS (.ok []))) := IR.fail (t := tok00) (r := []) _ rfl
    have HOF := Lib.hid hoi
    clear hbp hsp hrr ho hoi
    go_wp2_with fail
    rw [← hw2]
    clear hw2
    go_quiet (fail)
    obtain ⟨w4, hw4⟩ : ∃ w4, w4 = w2.drewN nq := ⟨_, rfl⟩
    have hb4 : Below w2.heap.size w2 w4 := hw4 ▸ below_drewN _ _ _
    have HP4 := Lib.hid (RP.after HP2.out hb4)
    have B24 := Lib.hid (B22.out.after hb4)
    have B34 := Lib.hid (B32.out.after hb4)
    have HF4 := Lib.hid (HF2.out.below hb4)
    rw [← hw4]
    clear hw4 hb4 c0 c1 HP2 B22 B32 HF2
    have q0 : ((bs ([] : List UInt8)).toList) = [] := list_bs _
    go_wp2_with fail
    refine (rfail_c _ p ts en _ HP4.out).mono ?_
    rintro e w5 ⟨rfl, hp, hfx⟩
    have HP5 := Lib.hid hp
    have B25 := Lib.hid (B24.out.fx hfx (fun e => by omega))
    have B35 := Lib.hid (B34.out.fx hfx (fun e => by omega))
    have HF5 := Lib.hid (HF4.out.new hfx (fun b e => .inl e))
    clear hp hfx
    obtain ⟨z0, z1, z2, z3, z4, z5, z6, z7⟩ := B35.out.cells8
    obtain ⟨y0, y1, y2, y3, y4, y5, y6, y7⟩ := B25.out.cells8
    obtain ⟨f0, f1, f2, f3, f4, f5, f6, f7⟩ := B25.out.frozen8
    have lb2 := B25.out.lt
    have lb3 := B35.out.lt
    have HEN := Lib.hid (end8 B25.out (.int .u8 0) (.slice none 0 0) (.int .u8 0) (.int .i64 0) (.int .i64 0) (.int .i64 0) (.slice none 0 0) (.int .i64 o))
    go_wp2_with fail
    obtain ⟨e0, e1, e2, e3, e4, e5, e6, e7⟩ := HEN.out.cells8
    refine bodyPost_ret (v := .agg (clV (.mk 0 [] 0 0 0 0 [] o) (.slice none 0 0) (.slice none 0 0)).toArray) (by simp [results, Tryz.results86, go_sem, clV, Cl.kind, Cl.dom, Cl.idx, Cl.a, Cl.b, Cl.off, e0, e1, e2, e3, e4, e5, e6, e7]) rfl ?_
    have hf9 := fx_set8 w5 w.heap.size 0 (.int .u8 0) (.slice none 0 0) (.int .u8 0) (.int .i64 0) (.int .i64 0) (.int .i64 0) (.slice none 0 0) (.int .i64 o)
    refine ⟨_, .mk 0 [] 0 0 0 0 [] o, _, rfl, ⟨.slice none 0 0, .slice none 0 0, rfl, hasC_iff.2 ⟨nums_mk (by decide) (by decide) in0 in0 in0 HOF.out, SlN.nil _ _, SlC.nil _ _⟩⟩, HIRF.out, RP.fx HP5.out hf9 (fun b e => by omega), HF5.out.new hf9 (fun b e => .inr (by omega))⟩
  · obtain ⟨k1, off1, ⟨v, hbp, hsp, hkp⟩, hrr⟩ := HP2.out
    have hlt1 : k1 < ts.length := by
      rcases Nat.lt_or_ge k1 ts.length with h | h
      · exact h
      · rw [List.drop_eq_nil_of_le h] at hrr; cases hrr
    obtain ⟨b, oo, cap, t', rfl, h2, h3, hlb, hd, hok, t0, t1, t2, t3⟩ := hsp.tok_at hlt1
    rw [hd] at hrr
    obtain ⟨rfl, _⟩ : t = t' ∧ True := by injection hrr with hrr _; exact ⟨hrr, trivial⟩
    have c0 : w2.cell? ⟨p, 0, none⟩ = some (.slice (some ⟨b, oo, none⟩) ts.length cap) := hbp.cell 0
    have c1 : w2.cell? ⟨p, 1, none⟩ = some (.int .i64 (k1 : Int)) := hbp.cell 1
    have hlp := hbp.lt
    have q1 : (k1 : Int) < (ts.length : Int) := by omega
    have q2 : decide ((k1 : Int) < (ts.length : Int)) = true := decide_eq_true q1
    have q3 : (0 : Int) ≤ (k1 : Int) := by omega
    have HOF : Hid (t.off = o ∧ In64 o) := ⟨ho, hoi⟩
    obtain ⟨x, hx⟩ : ∃ x, t.text = x := ⟨_, rfl⟩
    rw [hx] at t1
    have HX := Lib.hid hx
    clear hbp hsp hrr ho hoi hx t0 t2 t3 hd hok
    go_wp2_with fail
    rw [← hw2]
    clear hw2
    go_quiet (fail)
    obtain ⟨w3, hw3⟩ : ∃ w3, w3 = w2.drewN nq := ⟨_, rfl⟩
    have hb3 : Below w2.heap.size w2 w3 := hw3 ▸ below_drewN _ _ _
    have c03 := keep_cell hb3 c0
    have c13 := keep_cell hb3 c1
    have t13 := keep_cell hb3 t1
    have hlb3 := World.block_lt_of_cell? _ _ t13
    have hlp3 := World.block_lt_of_cell? _ _ c03
    simp only at hlb3 hlp3
    rw [← hw3]
    clear hw3 c0 c1 t1
    go_wp2_with fail
    go_quiet (fail)
    obtain ⟨w4, hw4⟩ : ∃ w4, w4 = w3.drewN nq := ⟨_, rfl⟩
    have hb4 : Below w2.heap.size w2 w4 := hb3.trans ((hw4 ▸ below_drewN _ _ _ : Below w3.heap.size w3 w4).mono hb3.size)
    have HP4 := Lib.hid (RP.after HP2.out hb4)
    have HPR := HP4
    have B24 := Lib.hid (B22.out.after hb4)
    have B34 := Lib.hid (B32.out.after hb4)
    have HF4 := Lib.hid (HF2.out.below hb4)
    rw [← hw4]
    clear hw4 hb4 hb3 c03 c13 t13 hlb3 hlp3 HP2 B22 B32 HF2 q1 q2 q3
    obtain ⟨T0, hT0⟩ : ∃ T, sCores = T := ⟨_, rfl⟩
    have u0 : (⟨#[99, 111, 114, 101, 115]⟩ : ByteArray) = bs T0 := by rw [← hT0]; rfl
    obtain ⟨T1, hT1⟩ : ∃ T, sReplicas = T := ⟨_, rfl⟩
    have u1 : (⟨#[114, 101, 112, 108, 105, 99, 97, 115]⟩ : ByteArray) = bs T1 := by rw [← hT1]; rfl
    obtain ⟨T2, hT2⟩ : ∃ T, sLeast = T := ⟨_, rfl⟩
    have u2 : (⟨#[108, 101, 97, 115, 116]⟩ : ByteArray) = bs T2 := by rw [← hT2]; rfl
    obtain ⟨T3, hT3⟩ : ∃ T, sFirmware = T := ⟨_, rfl⟩
    have u3 : (⟨#[102, 105, 114, 109, 119, 97, 114, 101]⟩ : ByteArray) = bs T3 := by rw [← hT3]; rfl
    obtain ⟨T4, hT4⟩ : ∃ T, sSpread = T := ⟨_, rfl⟩
    have u4 : (⟨#[115, 112, 114, 101, 97, 100]⟩ : ByteArray) = bs T4 := by rw [← hT4]; rfl
    obtain ⟨T5, hT5⟩ : ∃ T, sApart = T := ⟨_, rfl⟩
    have u5 : (⟨#[97, 112, 97, 114, 116]⟩ : ByteArray) = bs T5 := by rw [← hT5]; rfl
    obtain ⟨T6, hT6⟩ : ∃ T, sNear = T := ⟨_, rfl⟩
    have u6 : (⟨#[110, 101, 97, 114]⟩ : ByteArray) = bs T6 := by rw [← hT6]; rfl
    by_cases h0 : x = T0
    · have q0 : ((bs x).toList == (bs T0).toList) = true := by rw [h0]; simp
      have HTX : Hid (itemK t.text = 6) := by show _ = _; rw [HX.out, h0, ← hT0]; decide
      clear h0
      have z0 : w4.cell? ⟨w1.heap.size, 0, none⟩ = some (.int .u8 0) := B34.out.cell 0
      have f0 := B34.out.frozen 0
      have lb3 := B34.out.lt
      have lp := RP.lt HP4.out
      obtain ⟨kk, off2, ⟨vv, hbp, hsp, hkp⟩, hrr⟩ := HPR.out
      have hkl : kk < ts.length := by rcases Nat.lt_or_ge kk ts.length with h | h; exact h; rw [List.drop_eq_nil_of_le h] at hrr; cases hrr
      have p1 : w4.cell? ⟨p, 1, none⟩ = some (.int .i64 (kk : Int)) := hbp.cell 1
      have g1 := hbp.frozen 1
      have hkb : kk ≤ 1000000 := by omega
      obtain ⟨w5, hw5⟩ : ∃ W, W = w4.setCell ⟨w1.heap.size, 0, none⟩ (.int .u8 6) := ⟨_, rfl⟩
      have hf5 : Fx (fun b => b = w1.heap.size) w4 w5 := hw5 ▸ Fx.set w4 w1.heap.size 0 _
      have RB5 : RB w5 p ts en kk 0 off2 := RB.fx ⟨vv, hbp, hsp, hkp⟩ hf5 (fun b e => by omega)
      obtain ⟨w6, hw6⟩ : ∃ W, W = w5.setCell ⟨p, 1, none⟩ (.int .i64 ((kk : Int) + 1)) := ⟨_, rfl⟩
      have hf6 : Fx (fun b => b = p) w5 w6 := hw6 ▸ Fx.set w5 p 1 _
      have HP6 : Hid (RP w6 p ts en (.ok r)) := ⟨kk + 1, off2, by rw [hw6]; exact RB5.step hkl, by rw [List.drop_eq_getElem_cons hkl] at hrr; injection hrr with _ hrr⟩
      have B26 := Lib.hid ((B24.out.fx hf5 (fun e => by omega)).fx hf6 (fun e => by omega))
      have B36 : Hid (Box w6 w1.heap.size #[.int .u8 6, .slice none 0 0, .int .u8 0, .int .i64 0, .int .i64 0, .int .i64 0, .slice none 0 0, .int .i64 o] 43) := by
        have h8 : Box w5 w1.heap.size #[.int .u8 6, .slice none 0 0, .int .u8 0, .int .i64 0, .int .i64 0, .int .i64 0, .slice none 0 0, .int .i64 o] 43 := by rw [hw5]; simpa using B34.out.set 0 (.int .u8 6)
        exact h8.fx hf6 (fun e => by omega)
      have HF6 := Lib.hid ((HF4.out.new hf5 (fun b e => .inr (by omega))).new hf6 (fun b e => .inl e))
      clear hf5 hf6 RB5 hbp hsp hrr
      go_wp2_with fail
      rw [← hw5, ← hw6]
      clear hw5 hw6 p1 g1 z0 f0 lb3 lp
      refine (rnumber_c _ p ts en _ hts HP6.out).mono ?_
      rintro e w7 ⟨rfl, hp, hfx⟩
      have HP7 := Lib.hid hp
      have B27 := Lib.hid (B26.out.fx hfx (fun e => by omega))
      have B37 := Lib.hid (B36.out.fx hfx (fun e => by omega))
      have HF7 := Lib.hid (HF6.out.new hfx (fun b e => .inl e))
      clear hp hfx
      have HZ := Lib.hid (RP.num HP6.out)
      obtain ⟨z, hz⟩ : ∃ z, (outS numP (.ok r)).getD 0 = z := ⟨_, rfl⟩
      have HIR := Lib.hid (ir_num (k := 6) o (.ok r) (by decide) (by decide) (by decide))
      rw [hz] at HZ HIR ⊢
      clear hz
      have z0 : w7.cell? ⟨w1.heap.size, 0, none⟩ = some (.int .u8 6) := B37.out.cell 0
      have f0 := B37.out.frozen 0
      have z4 : w7.cell? ⟨w1.heap.size, 4, none⟩ = some (.int .i64 0) := B37.out.cell 4
      have f4 := B37.out.frozen 4
      have lb3 := B37.out.lt
      have lp := RP.lt HP7.out
      obtain ⟨w8, hw8⟩ : ∃ W, W = w7.setCell ⟨w1.heap.size, 4, none⟩ (.int .i64 z) := ⟨_, rfl⟩
      have hfx : Fx (fun b => b = w1.heap.size) w7 w8 := hw8 ▸ Fx.set w7 w1.heap.size 4 _
      have HP8 := Lib.hid (RP.fx HP7.out hfx (fun b e => by omega))
      have B28 := Lib.hid (B27.out.fx hfx (fun e => by omega))
      have B38 : Hid (Box w8 w1.heap.size #[.int .u8 6, .slice none 0 0, .int .u8 0, .int .i64 0, .int .i64 z, .int .i64 0, .slice none 0 0, .int .i64 o] 43) := by show Box _ _ _ _; rw [hw8]; simpa using B37.out.set 4 (.int .i64 z)
      have HF8 := Lib.hid (HF7.out.new hfx (fun b e => .inr (by omega)))
      clear hfx
      go_wp2_with fail
      rw [← hw8]
      clear hw8
      clear z0 f0 z4 f4 lb3 lp
      refine (rtake_c _ p ts en _ sSemi hts HP8.out).mono ?_
      rintro e w9 ⟨rfl, hp, hfx⟩
      have HP9 := Lib.hid hp
      have B29 := Lib.hid (B28.out.fx hfx (fun e => by omega))
      have B39 := Lib.hid (B38.out.fx hfx (fun e => by omega))
      have HF9 := Lib.hid (HF8.out.new hfx (fun b e => .inl e))
      clear hp hfx
      obtain ⟨z0, z1, z2, z3, z4, z5, z6, z7⟩ := B39.out.cells8
      obtain ⟨y0, y1, y2, y3, y4, y5, y6, y7⟩ := B29.out.cells8
      obtain ⟨f0, f1, f2, f3, f4, f5, f6, f7⟩ := B29.out.frozen8
      have lb2 := B29.out.lt
      have lb3 := B39.out.lt
      have HEN := Lib.hid (end8 B29.out (.int .u8 6) (.slice none 0 0) (.int .u8 0) (.int .i64 0) (.int .i64 z) (.int .i64 0) (.slice none 0 0) (.int .i64 o))
      go_wp2_with fail
      obtain ⟨e0, e1, e2, e3, e4, e5, e6, e7⟩ := HEN.out.cells8
      refine bodyPost_ret (v := .agg (clV (.mk 6 [] 0 0 z 0 [] o) (.slice none 0 0) (.slice none 0 0)).toArray) (by simp [results, Tryz.results86, go_sem, clV, Cl.kind, Cl.dom, Cl.idx, Cl.a, Cl.b, Cl.off, e0, e1, e2, e3, e4, e5, e6, e7]) rfl ?_
      have hf9 := fx_set8 w9 w.heap.size 0 (.int .u8 6) (.slice none 0 0) (.int .u8 0) (.int .i64 0) (.int .i64 z) (.int .i64 0) (.slice none 0 0) (.int .i64 o)
      refine ⟨_, .mk 6 [] 0 0 z 0 [] o, _, rfl, ⟨.slice none 0 0, .slice none 0 0, rfl, hasC_iff.2 ⟨nums_mk (by decide) (by decide) in0 HZ.out in0 HOF.out.2, SlN.nil _ _, SlC.nil _ _⟩⟩, IR.item (k := 6) HTX.out (by decide) (by rw [HOF.out.1]; exact HIR.out), RP.fx HP9.out hf9 (fun b e => by omega), HF9.out.new hf9 (fun b e => .inr (by omega))⟩
    have q0 := bs_eq_no h0
    by_cases h1 : x = T1
    · have q1 : ((bs x).toList == (bs T1).toList) = true := by rw [h1]; simp
      have HTX : Hid (itemK t.text = 7) := by show _ = _; rw [HX.out, h1, ← hT1]; decide
      clear h0 h1
      have z0 : w4.cell? ⟨w1.heap.size, 0, none⟩ = some (.int .u8 0) := B34.out.cell 0
      have f0 := B34.out.frozen 0
      have lb3 := B34.out.lt
      have lp := RP.lt HP4.out
      obtain ⟨kk, off2, ⟨vv, hbp, hsp, hkp⟩, hrr⟩ := HPR.out
      have hkl : kk < ts.length := by rcases Nat.lt_or_ge kk ts.length with h | h; exact h; rw [List.drop_eq_nil_of_le h] at hrr; cases hrr
      have p1 : w4.cell? ⟨p, 1, none⟩ = some (.int .i64 (kk : Int)) := hbp.cell 1
      have g1 := hbp.frozen 1
      have hkb : kk ≤ 1000000 := by omega
      obtain ⟨w5, hw5⟩ : ∃ W, W = w4.setCell ⟨w1.heap.size, 0, none⟩ (.int .u8 7) := ⟨_, rfl⟩
      have hf5 : Fx (fun b => b = w1.heap.size) w4 w5 := hw5 ▸ Fx.set w4 w1.heap.size 0 _
      have RB5 : RB w5 p ts en kk 0 off2 := RB.fx ⟨vv, hbp, hsp, hkp⟩ hf5 (fun b e => by omega)
      obtain ⟨w6, hw6⟩ : ∃ W, W = w5.setCell ⟨p, 1, none⟩ (.int .i64 ((kk : Int) + 1)) := ⟨_, rfl⟩
      have hf6 : Fx (fun b => b = p) w5 w6 := hw6 ▸ Fx.set w5 p 1 _
      have HP6 : Hid (RP w6 p ts en (.ok r)) := ⟨kk + 1, off2, by rw [hw6]; exact RB5.step hkl, by rw [List.drop_eq_getElem_cons hkl] at hrr; injection hrr with _ hrr⟩
      have B26 := Lib.hid ((B24.out.fx hf5 (fun e => by omega)).fx hf6 (fun e => by omega))
      have B36 : Hid (Box w6 w1.heap.size #[.int .u8 7, .slice none 0 0, .int .u8 0, .int .i64 0, .int .i64 0, .int .i64 0, .slice none 0 0, .int .i64 o] 43) := by
        have h8 : Box w5 w1.heap.size #[.int .u8 7, .slice none 0 0, .int .u8 0, .int .i64 0, .int .i64 0, .int .i64 0, .slice none 0 0, .int .i64 o] 43 := by rw [hw5]; simpa using B34.out.set 0 (.int .u8 7)
        exact h8.fx hf6 (fun e => by omega)
      have HF6 := Lib.hid ((HF4.out.new hf5 (fun b e => .inr (by omega))).new hf6 (fun b e => .inl e))
      clear hf5 hf6 RB5 hbp hsp hrr
      go_wp2_with fail
      rw [← hw5, ← hw6]
      clear hw5 hw6 p1 g1 z0 f0 lb3 lp
      refine (rnumber_c _ p ts en _ hts HP6.out).mono ?_
      rintro e w7 ⟨rfl, hp, hfx⟩
      have HP7 := Lib.hid hp
      have B27 := Lib.hid (B26.out.fx hfx (fun e => by omega))
      have B37 := Lib.hid (B36.out.fx hfx (fun e => by omega))
      have HF7 := Lib.hid (HF6.out.new hfx (fun b e => .inl e))
      clear hp hfx
      have HZ := Lib.hid (RP.num HP6.out)
      obtain ⟨z, hz⟩ : ∃ z, (outS numP (.ok r)).getD 0 = z := ⟨_, rfl⟩
      have HIR := Lib.hid (ir_num (k := 7) o (.ok r) (by decide) (by decide) (by decide))
      rw [hz] at HZ HIR ⊢
      clear hz
      have z0 : w7.cell? ⟨w1.heap.size, 0, none⟩ = some (.int .u8 7) := B37.out.cell 0
      have f0 := B37.out.frozen 0
      have z4 : w7.cell? ⟨w1.heap.size, 4, none⟩ = some (.int .i64 0) := B37.out.cell 4
      have f4 := B37.out.frozen 4
      have lb3 := B37.out.lt
      have lp := RP.lt HP7.out
      obtain ⟨w8, hw8⟩ : ∃ W, W = w7.setCell ⟨w1.heap.size, 4, none⟩ (.int .i64 z) := ⟨_, rfl⟩
      have hfx : Fx (fun b => b = w1.heap.size) w7 w8 := hw8 ▸ Fx.set w7 w1.heap.size 4 _
      have HP8 := Lib.hid (RP.fx HP7.out hfx (fun b e => by omega))
      have B28 := Lib.hid (B27.out.fx hfx (fun e => by omega))
      have B38 : Hid (Box w8 w1.heap.size #[.int .u8 7, .slice none 0 0, .int .u8 0, .int .i64 0, .int .i64 z, .int .i64 0, .slice none 0 0, .int .i64 o] 43) := by show Box _ _ _ _; rw [hw8]; simpa using B37.out.set 4 (.int .i64 z)
      have HF8 := Lib.hid (HF7.out.new hfx (fun b e => .inr (by omega)))
      clear hfx
      go_wp2_with fail
      rw [← hw8]
      clear hw8
      clear z0 f0 z4 f4 lb3 lp
      refine (rtake_c _ p ts en _ sSemi hts HP8.out).mono ?_
      rintro e w9 ⟨rfl, hp, hfx⟩
      have HP9 := Lib.hid hp
      have B29 := Lib.hid (B28.out.fx hfx (fun e => by omega))
      have B39 := Lib.hid (B38.out.fx hfx (fun e => by omega))
      have HF9 := Lib.hid (HF8.out.new hfx (fun b e => .inl e))
      clear hp hfx
      obtain ⟨z0, z1, z2, z3, z4, z5, z6, z7⟩ := B39.out.cells8
      obtain ⟨y0, y1, y2, y3, y4, y5, y6, y7⟩ := B29.out.cells8
      obtain ⟨f0, f1, f2, f3, f4, f5, f6, f7⟩ := B29.out.frozen8
      have lb2 := B29.out.lt
      have lb3 := B39.out.lt
      have HEN := Lib.hid (end8 B29.out (.int .u8 7) (.slice none 0 0) (.int .u8 0) (.int .i64 0) (.int .i64 z) (.int .i64 0) (.slice none 0 0) (.int .i64 o))
      go_wp2_with fail
      obtain ⟨e0, e1, e2, e3, e4, e5, e6, e7⟩ := HEN.out.cells8
      refine bodyPost_ret (v := .agg (clV (.mk 7 [] 0 0 z 0 [] o) (.slice none 0 0) (.slice none 0 0)).toArray) (by simp [results, Tryz.results86, go_sem, clV, Cl.kind, Cl.dom, Cl.idx, Cl.a, Cl.b, Cl.off, e0, e1, e2, e3, e4, e5, e6, e7]) rfl ?_
      have hf9 := fx_set8 w9 w.heap.size 0 (.int .u8 7) (.slice none 0 0) (.int .u8 0) (.int .i64 0) (.int .i64 z) (.int .i64 0) (.slice none 0 0) (.int .i64 o)
      refine ⟨_, .mk 7 [] 0 0 z 0 [] o, _, rfl, ⟨.slice none 0 0, .slice none 0 0, rfl, hasC_iff.2 ⟨nums_mk (by decide) (by decide) in0 HZ.out in0 HOF.out.2, SlN.nil _ _, SlC.nil _ _⟩⟩, IR.item (k := 7) HTX.out (by decide) (by rw [HOF.out.1]; exact HIR.out), RP.fx HP9.out hf9 (fun b e => by omega), HF9.out.new hf9 (fun b e => .inr (by omega))⟩
    have q1 := bs_eq_no h1
    by_cases h2 : x = T2
    · have q2 : ((bs x).toList == (bs T2).toList) = true := by rw [h2]; simp
      have HTX : Hid (itemK t.text = 8) := by show _ = _; rw [HX.out, h2, ← hT2]; decide
      clear h0 h1 h2
      have z0 : w4.cell? ⟨w1.heap.size, 0, none⟩ = some (.int .u8 0) := B34.out.cell 0
      have f0 := B34.out.frozen 0
      have lb3 := B34.out.lt
      have lp := RP.lt HP4.out
      obtain ⟨kk, off2, ⟨vv, hbp, hsp, hkp⟩, hrr⟩ := HPR.out
      have hkl : kk < ts.length := by rcases Nat.lt_or_ge kk ts.length with h | h; exact h; rw [List.drop_eq_nil_of_le h] at hrr; cases hrr
      have p1 : w4.cell? ⟨p, 1, none⟩ = some (.int .i64 (kk : Int)) := hbp.cell 1
      have g1 := hbp.frozen 1
      have hkb : kk ≤ 1000000 := by omega
      obtain ⟨w5, hw5⟩ : ∃ W, W = w4.setCell ⟨w1.heap.size, 0, none⟩ (.int .u8 8) := ⟨_, rfl⟩
      have hf5 : Fx (fun b => b = w1.heap.size) w4 w5 := hw5 ▸ Fx.set w4 w1.heap.size 0 _
      have RB5 : RB w5 p ts en kk 0 off2 := RB.fx ⟨vv, hbp, hsp, hkp⟩ hf5 (fun b e => by omega)
      obtain ⟨w6, hw6⟩ : ∃ W, W = w5.setCell ⟨p, 1, none⟩ (.int .i64 ((kk : Int) + 1)) := ⟨_, rfl⟩
      have hf6 : Fx (fun b => b = p) w5 w6 := hw6 ▸ Fx.set w5 p 1 _
      have HP6 : Hid (RP w6 p ts en (.ok r)) := ⟨kk + 1, off2, by rw [hw6]; exact RB5.step hkl, by rw [List.drop_eq_getElem_cons hkl] at hrr; injection hrr with _ hrr⟩
      have B26 := Lib.hid ((B24.out.fx hf5 (fun e => by omega)).fx hf6 (fun e => by omega))
      have B36 : Hid (Box w6 w1.heap.size #[.int .u8 8, .slice none 0 0, .int .u8 0, .int .i64 0, .int .i64 0, .int .i64 0, .slice none 0 0, .int .i64 o] 43) := by
        have h8 : Box w5 w1.heap.size #[.int .u8 8, .slice none 0 0, .int .u8 0, .int .i64 0, .int .i64 0, .int .i64 0, .slice none 0 0, .int .i64 o] 43 := by rw [hw5]; simpa using B34.out.set 0 (.int .u8 8)
        exact h8.fx hf6 (fun e => by omega)
      have HF6 := Lib.hid ((HF4.out.new hf5 (fun b e => .inr (by omega))).new hf6 (fun b e => .inl e))
      clear hf5 hf6 RB5 hbp hsp hrr
      go_wp2_with fail
      rw [← hw5, ← hw6]
      clear hw5 hw6 p1 g1 z0 f0 lb3 lp
      refine (rnumber_c _ p ts en _ hts HP6.out).mono ?_
      rintro e w7 ⟨rfl, hp, hfx⟩
      have HP7 := Lib.hid hp
      have B27 := Lib.hid (B26.out.fx hfx (fun e => by omega))
      have B37 := Lib.hid (B36.out.fx hfx (fun e => by omega))
      have HF7 := Lib.hid (HF6.out.new hfx (fun b e => .inl e))
      clear hp hfx
      have HZ := Lib.hid (RP.num HP6.out)
      obtain ⟨z, hz⟩ : ∃ z, (outS numP (.ok r)).getD 0 = z := ⟨_, rfl⟩
      have HIR := Lib.hid (ir_num (k := 8) o (.ok r) (by decide) (by decide) (by decide))
      rw [hz] at HZ HIR ⊢
      clear hz
      have z0 : w7.cell? ⟨w1.heap.size, 0, none⟩ = some (.int .u8 8) := B37.out.cell 0
      have f0 := B37.out.frozen 0
      have z4 : w7.cell? ⟨w1.heap.size, 4, none⟩ = some (.int .i64 0) := B37.out.cell 4
      have f4 := B37.out.frozen 4
      have lb3 := B37.out.lt
      have lp := RP.lt HP7.out
      obtain ⟨w8, hw8⟩ : ∃ W, W = w7.setCell ⟨w1.heap.size, 4, none⟩ (.int .i64 z) := ⟨_, rfl⟩
      have hfx : Fx (fun b => b = w1.heap.size) w7 w8 := hw8 ▸ Fx.set w7 w1.heap.size 4 _
      have HP8 := Lib.hid (RP.fx HP7.out hfx (fun b e => by omega))
      have B28 := Lib.hid (B27.out.fx hfx (fun e => by omega))
      have B38 : Hid (Box w8 w1.heap.size #[.int .u8 8, .slice none 0 0, .int .u8 0, .int .i64 0, .int .i64 z, .int .i64 0, .slice none 0 0, .int .i64 o] 43) := by show Box _ _ _ _; rw [hw8]; simpa using B37.out.set 4 (.int .i64 z)
      have HF8 := Lib.hid (HF7.out.new hfx (fun b e => .inr (by omega)))
      clear hfx
      go_wp2_with fail
      rw [← hw8]
      clear hw8
      clear z0 f0 z4 f4 lb3 lp
      refine (rtake_c _ p ts en _ sSemi hts HP8.out).mono ?_
      rintro e w9 ⟨rfl, hp, hfx⟩
      have HP9 := Lib.hid hp
      have B29 := Lib.hid (B28.out.fx hfx (fun e => by omega))
      have B39 := Lib.hid (B38.out.fx hfx (fun e => by omega))
      have HF9 := Lib.hid (HF8.out.new hfx (fun b e => .inl e))
      clear hp hfx
      obtain ⟨z0, z1, z2, z3, z4, z5, z6, z7⟩ := B39.out.cells8
      obtain ⟨y0, y1, y2, y3, y4, y5, y6, y7⟩ := B29.out.cells8
      obtain ⟨f0, f1, f2, f3, f4, f5, f6, f7⟩ := B29.out.frozen8
      have lb2 := B29.out.lt
      have lb3 := B39.out.lt
      have HEN := Lib.hid (end8 B29.out (.int .u8 8) (.slice none 0 0) (.int .u8 0) (.int .i64 0) (.int .i64 z) (.int .i64 0) (.slice none 0 0) (.int .i64 o))
      go_wp2_with fail
      obtain ⟨e0, e1, e2, e3, e4, e5, e6, e7⟩ := HEN.out.cells8
      refine bodyPost_ret (v := .agg (clV (.mk 8 [] 0 0 z 0 [] o) (.slice none 0 0) (.slice none 0 0)).toArray) (by simp [results, Tryz.results86, go_sem, clV, Cl.kind, Cl.dom, Cl.idx, Cl.a, Cl.b, Cl.off, e0, e1, e2, e3, e4, e5, e6, e7]) rfl ?_
      have hf9 := fx_set8 w9 w.heap.size 0 (.int .u8 8) (.slice none 0 0) (.int .u8 0) (.int .i64 0) (.int .i64 z) (.int .i64 0) (.slice none 0 0) (.int .i64 o)
      refine ⟨_, .mk 8 [] 0 0 z 0 [] o, _, rfl, ⟨.slice none 0 0, .slice none 0 0, rfl, hasC_iff.2 ⟨nums_mk (by decide) (by decide) in0 HZ.out in0 HOF.out.2, SlN.nil _ _, SlC.nil _ _⟩⟩, IR.item (k := 8) HTX.out (by decide) (by rw [HOF.out.1]; exact HIR.out), RP.fx HP9.out hf9 (fun b e => by omega), HF9.out.new hf9 (fun b e => .inr (by omega))⟩
    have q2 := bs_eq_no h2
    by_cases h3 : x = T3
    · have q3 : ((bs x).toList == (bs T3).toList) = true := by rw [h3]; simp
      have HTX : Hid (itemK t.text = 12) := by show _ = _; rw [HX.out, h3, ← hT3]; decide
      clear h0 h1 h2 h3
      have z0 : w4.cell? ⟨w1.heap.size, 0, none⟩ = some (.int .u8 0) := B34.out.cell 0
      have f0 := B34.out.frozen 0
      have lb3 := B34.out.lt
      have lp := RP.lt HP4.out
      obtain ⟨kk, off2, ⟨vv, hbp, hsp, hkp⟩, hrr⟩ := HPR.out
      have hkl : kk < ts.length := by rcases Nat.lt_or_ge kk ts.length with h | h; exact h; rw [List.drop_eq_nil_of_le h] at hrr; cases hrr
      have p1 : w4.cell? ⟨p, 1, none⟩ = some (.int .i64 (kk : Int)) := hbp.cell 1
      have g1 := hbp.frozen 1
      have hkb : kk ≤ 1000000 := by omega
      obtain ⟨w5, hw5⟩ : ∃ W, W = w4.setCell ⟨w1.heap.size, 0, none⟩ (.int .u8 12) := ⟨_, rfl⟩
      have hf5 : Fx (fun b => b = w1.heap.size) w4 w5 := hw5 ▸ Fx.set w4 w1.heap.size 0 _
      have RB5 : RB w5 p ts en kk 0 off2 := RB.fx ⟨vv, hbp, hsp, hkp⟩ hf5 (fun b e => by omega)
      obtain ⟨w6, hw6⟩ : ∃ W, W = w5.setCell ⟨p, 1, none⟩ (.int .i64 ((kk : Int) + 1)) := ⟨_, rfl⟩
      have hf6 : Fx (fun b => b = p) w5 w6 := hw6 ▸ Fx.set w5 p 1 _
      have HP6 : Hid (RP w6 p ts en (.ok r)) := ⟨kk + 1, off2, by rw [hw6]; exact RB5.step hkl, by rw [List.drop_eq_getElem_cons hkl] at hrr; injection hrr with _ hrr⟩
      have B26 := Lib.hid ((B24.out.fx hf5 (fun e => by omega)).fx hf6 (fun e => by omega))
      have B36 : Hid (Box w6 w1.heap.size #[.int .u8 12, .slice none 0 0, .int .u8 0, .int .i64 0, .int .i64 0, .int .i64 0, .slice none 0 0, .int .i64 o] 43) := by
        have h8 : Box w5 w1.heap.size #[.int .u8 12, .slice none 0 0, .int .u8 0, .int .i64 0, .int .i64 0, .int .i64 0, .slice none 0 0, .int .i64 o] 43 := by rw [hw5]; simpa using B34.out.set 0 (.int .u8 12)
        exact h8.fx hf6 (fun e => by omega)
      have HF6 := Lib.hid ((HF4.out.new hf5 (fun b e => .inr (by omega))).new hf6 (fun b e => .inl e))
      clear hf5 hf6 RB5 hbp hsp hrr
      go_wp2_with fail
      rw [← hw5, ← hw6]
      clear hw5 hw6 p1 g1 z0 f0 lb3 lp
      refine (rnumber_c _ p ts en _ hts HP6.out).mono ?_
      rintro e w7 ⟨rfl, hp, hfx⟩
      have HP7 := Lib.hid hp
      have B27 := Lib.hid (B26.out.fx hfx (fun e => by omega))
      have B37 := Lib.hid (B36.out.fx hfx (fun e => by omega))
      have HF7 := Lib.hid (HF6.out.new hfx (fun b e => .inl e))
      clear hp hfx
      have HZ := Lib.hid (RP.num HP6.out)
      obtain ⟨z, hz⟩ : ∃ z, (outS numP (.ok r)).getD 0 = z := ⟨_, rfl⟩
      have HIR := Lib.hid (ir_num (k := 12) o (.ok r) (by decide) (by decide) (by decide))
      rw [hz] at HZ HIR ⊢
      clear hz
      have z0 : w7.cell? ⟨w1.heap.size, 0, none⟩ = some (.int .u8 12) := B37.out.cell 0
      have f0 := B37.out.frozen 0
      have z4 : w7.cell? ⟨w1.heap.size, 4, none⟩ = some (.int .i64 0) := B37.out.cell 4
      have f4 := B37.out.frozen 4
      have lb3 := B37.out.lt
      have lp := RP.lt HP7.out
      obtain ⟨w8, hw8⟩ : ∃ W, W = w7.setCell ⟨w1.heap.size, 4, none⟩ (.int .i64 z) := ⟨_, rfl⟩
      have hfx : Fx (fun b => b = w1.heap.size) w7 w8 := hw8 ▸ Fx.set w7 w1.heap.size 4 _
      have HP8 := Lib.hid (RP.fx HP7.out hfx (fun b e => by omega))
      have B28 := Lib.hid (B27.out.fx hfx (fun e => by omega))
      have B38 : Hid (Box w8 w1.heap.size #[.int .u8 12, .slice none 0 0, .int .u8 0, .int .i64 0, .int .i64 z, .int .i64 0, .slice none 0 0, .int .i64 o] 43) := by show Box _ _ _ _; rw [hw8]; simpa using B37.out.set 4 (.int .i64 z)
      have HF8 := Lib.hid (HF7.out.new hfx (fun b e => .inr (by omega)))
      clear hfx
      go_wp2_with fail
      rw [← hw8]
      clear hw8
      clear z0 f0 z4 f4 lb3 lp
      refine (rtake_c _ p ts en _ sSemi hts HP8.out).mono ?_
      rintro e w9 ⟨rfl, hp, hfx⟩
      have HP9 := Lib.hid hp
      have B29 := Lib.hid (B28.out.fx hfx (fun e => by omega))
      have B39 := Lib.hid (B38.out.fx hfx (fun e => by omega))
      have HF9 := Lib.hid (HF8.out.new hfx (fun b e => .inl e))
      clear hp hfx
      obtain ⟨z0, z1, z2, z3, z4, z5, z6, z7⟩ := B39.out.cells8
      obtain ⟨y0, y1, y2, y3, y4, y5, y6, y7⟩ := B29.out.cells8
      obtain ⟨f0, f1, f2, f3, f4, f5, f6, f7⟩ := B29.out.frozen8
      have lb2 := B29.out.lt
      have lb3 := B39.out.lt
      have HEN := Lib.hid (end8 B29.out (.int .u8 12) (.slice none 0 0) (.int .u8 0) (.int .i64 0) (.int .i64 z) (.int .i64 0) (.slice none 0 0) (.int .i64 o))
      go_wp2_with fail
      obtain ⟨e0, e1, e2, e3, e4, e5, e6, e7⟩ := HEN.out.cells8
      refine bodyPost_ret (v := .agg (clV (.mk 12 [] 0 0 z 0 [] o) (.slice none 0 0) (.slice none 0 0)).toArray) (by simp [results, Tryz.results86, go_sem, clV, Cl.kind, Cl.dom, Cl.idx, Cl.a, Cl.b, Cl.off, e0, e1, e2, e3, e4, e5, e6, e7]) rfl ?_
      have hf9 := fx_set8 w9 w.heap.size 0 (.int .u8 12) (.slice none 0 0) (.int .u8 0) (.int .i64 0) (.int .i64 z) (.int .i64 0) (.slice none 0 0) (.int .i64 o)
      refine ⟨_, .mk 12 [] 0 0 z 0 [] o, _, rfl, ⟨.slice none 0 0, .slice none 0 0, rfl, hasC_iff.2 ⟨nums_mk (by decide) (by decide) in0 HZ.out in0 HOF.out.2, SlN.nil _ _, SlC.nil _ _⟩⟩, IR.item (k := 12) HTX.out (by decide) (by rw [HOF.out.1]; exact HIR.out), RP.fx HP9.out hf9 (fun b e => by omega), HF9.out.new hf9 (fun b e => .inr (by omega))⟩
    have q3 := bs_eq_no h3
    by_cases h4 : x = T4
    · have q4 : ((bs x).toList == (bs T4).toList) = true := by rw [h4]; simp
      have HTX : Hid (itemK t.text = 9) := by show _ = _; rw [HX.out, h4, ← hT4]; decide
      clear h0 h1 h2 h3 h4
      have z0 : w4.cell? ⟨w1.heap.size, 0, none⟩ = some (.int .u8 0) := B34.out.cell 0
      have f0 := B34.out.frozen 0
      have lb3 := B34.out.lt
      have lp := RP.lt HP4.out
      obtain ⟨kk, off2, ⟨vv, hbp, hsp, hkp⟩, hrr⟩ := HPR.out
      have hkl : kk < ts.length := by rcases Nat.lt_or_ge kk ts.length with h | h; exact h; rw [List.drop_eq_nil_of_le h] at hrr; cases hrr
      have p1 : w4.cell? ⟨p, 1, none⟩ = some (.int .i64 (kk : Int)) := hbp.cell 1
      have g1 := hbp.frozen 1
      have hkb : kk ≤ 1000000 := by omega
      obtain ⟨w5, hw5⟩ : ∃ W, W = w4.setCell ⟨w1.heap.size, 0, none⟩ (.int .u8 9) := ⟨_, rfl⟩
      have hf5 : Fx (fun b => b = w1.heap.size) w4 w5 := hw5 ▸ Fx.set w4 w1.heap.size 0 _
      have RB5 : RB w5 p ts en kk 0 off2 := RB.fx ⟨vv, hbp, hsp, hkp⟩ hf5 (fun b e => by omega)
      obtain ⟨w6, hw6⟩ : ∃ W, W = w5.setCell ⟨p, 1, none⟩ (.int .i64 ((kk : Int) + 1)) := ⟨_, rfl⟩
      have hf6 : Fx (fun b => b = p) w5 w6 := hw6 ▸ Fx.set w5 p 1 _
      have HP6 : Hid (RP w6 p ts en (.ok r)) := ⟨kk + 1, off2, by rw [hw6]; exact RB5.step hkl, by rw [List.drop_eq_getElem_cons hkl] at hrr; injection hrr with _ hrr⟩
      have B26 := Lib.hid ((B24.out.fx hf5 (fun e => by omega)).fx hf6 (fun e => by omega))
      have B36 : Hid (Box w6 w1.heap.size #[.int .u8 9, .slice none 0 0, .int .u8 0, .int .i64 0, .int .i64 0, .int .i64 0, .slice none 0 0, .int .i64 o] 43) := by
        have h8 : Box w5 w1.heap.size #[.int .u8 9, .slice none 0 0, .int .u8 0, .int .i64 0, .int .i64 0, .int .i64 0, .slice none 0 0, .int .i64 o] 43 := by rw [hw5]; simpa using B34.out.set 0 (.int .u8 9)
        exact h8.fx hf6 (fun e => by omega)
      have HF6 := Lib.hid ((HF4.out.new hf5 (fun b e => .inr (by omega))).new hf6 (fun b e => .inl e))
      clear hf5 hf6 RB5 hbp hsp hrr
      go_wp2_with fail
      rw [← hw5, ← hw6]
      clear hw5 hw6 p1 g1 z0 f0 lb3 lp
      refine (rnumber_c _ p ts en _ hts HP6.out).mono ?_
      rintro e w7 ⟨rfl, hp, hfx⟩
      have HP7 := Lib.hid hp
      have B27 := Lib.hid (B26.out.fx hfx (fun e => by omega))
      have B37 := Lib.hid (B36.out.fx hfx (fun e => by omega))
      have HF7 := Lib.hid (HF6.out.new hfx (fun b e => .inl e))
      clear hp hfx
      have HZ := Lib.hid (RP.num HP6.out)
      have HIR := Lib.hid (ir_spread o (.ok r))
      obtain ⟨z, hz⟩ : ∃ z, (outS numP (.ok r)).getD 0 = z := ⟨_, rfl⟩
      rw [hz] at HZ HIR ⊢
      clear hz
      have z0 : w7.cell? ⟨w1.heap.size, 0, none⟩ = some (.int .u8 9) := B37.out.cell 0
      have f0 := B37.out.frozen 0
      have z4 : w7.cell? ⟨w1.heap.size, 4, none⟩ = some (.int .i64 0) := B37.out.cell 4
      have f4 := B37.out.frozen 4
      have lb3 := B37.out.lt
      have lp := RP.lt HP7.out
      obtain ⟨w8, hw8⟩ : ∃ W, W = w7.setCell ⟨w1.heap.size, 4, none⟩ (.int .i64 z) := ⟨_, rfl⟩
      have hfx : Fx (fun b => b = w1.heap.size) w7 w8 := hw8 ▸ Fx.set w7 w1.heap.size 4 _
      have HP8 := Lib.hid (RP.fx HP7.out hfx (fun b e => by omega))
      have B28 := Lib.hid (B27.out.fx hfx (fun e => by omega))
      have B38 : Hid (Box w8 w1.heap.size #[.int .u8 9, .slice none 0 0, .int .u8 0, .int .i64 0, .int .i64 z, .int .i64 0, .slice none 0 0, .int .i64 o] 43) := by show Box _ _ _ _; rw [hw8]; simpa using B37.out.set 4 (.int .i64 z)
      have HF8 := Lib.hid (HF7.out.new hfx (fun b e => .inr (by omega)))
      clear hfx
      go_wp2_with fail
      rw [← hw8]
      clear hw8
      clear z0 f0 z4 f4 lb3 lp
      refine (rtake_c _ p ts en _ sPer hts HP8.out).mono ?_
      rintro e w9 ⟨rfl, hp, hfx⟩
      have HP9 := Lib.hid hp
      have B29 := Lib.hid (B28.out.fx hfx (fun e => by omega))
      have B39 := Lib.hid (B38.out.fx hfx (fun e => by omega))
      have HF9 := Lib.hid (HF8.out.new hfx (fun b e => .inl e))
      clear hp hfx
      go_wp2_with fail
      refine (rscope_c _ p ts en _ hts HP9.out).mono ?_
      rintro e w10 ⟨rfl, hp, hfx⟩
      have HP10 := Lib.hid hp
      have B210 := Lib.hid (B29.out.fx hfx (fun e => by omega))
      have B310 := Lib.hid (B39.out.fx hfx (fun e => by omega))
      have HF10 := Lib.hid (HF9.out.new hfx (fun b e => .inl e))
      clear hp hfx
      have HD := Lib.hid (scope_lt (goS (wantP sPer) (goS numP (.ok r))))
      obtain ⟨dm, hdm⟩ : ∃ d, (outS scopeP (goS (wantP sPer) (goS numP (.ok r)))).getD 0 = d := ⟨_, rfl⟩
      rw [hdm] at HD HIR ⊢
      clear hdm
      have z2 : w10.cell? ⟨w1.heap.size, 2, none⟩ = some (.int .u8 0) := B310.out.cell 2
      have f2 := B310.out.frozen 2
      have lb3 := B310.out.lt
      have lp := RP.lt HP10.out
      obtain ⟨w11, hw11⟩ : ∃ W, W = w10.setCell ⟨w1.heap.size, 2, none⟩ (.int .u8 (dm : Int)) := ⟨_, rfl⟩
      have hfx : Fx (fun b => b = w1.heap.size) w10 w11 := hw11 ▸ Fx.set w10 w1.heap.size 2 _
      have HP11 := Lib.hid (RP.fx HP10.out hfx (fun b e => by omega))
      have B211 := Lib.hid (B210.out.fx hfx (fun e => by omega))
      have B311 : Hid (Box w11 w1.heap.size #[.int .u8 9, .slice none 0 0, .int .u8 (dm : Int), .int .i64 0, .int .i64 z, .int .i64 0, .slice none 0 0, .int .i64 o] 43) := by show Box _ _ _ _; rw [hw11]; simpa using B310.out.set 2 (.int .u8 (dm : Int))
      have HF11 := Lib.hid (HF10.out.new hfx (fun b e => .inr (by omega)))
      clear hfx
      go_wp2_with fail
      rw [← hw11]
      clear hw11
      clear z2 f2 lb3 lp
      refine (rtake_c _ p ts en _ sSemi hts HP11.out).mono ?_
      rintro e w12 ⟨rfl, hp, hfx⟩
      have HP12 := Lib.hid hp
      have B212 := Lib.hid (B211.out.fx hfx (fun e => by omega))
      have B312 := Lib.hid (B311.out.fx hfx (fun e => by omega))
      have HF12 := Lib.hid (HF11.out.new hfx (fun b e => .inl e))
      clear hp hfx
      obtain ⟨z0, z1, z2, z3, z4, z5, z6, z7⟩ := B312.out.cells8
      obtain ⟨y0, y1, y2, y3, y4, y5, y6, y7⟩ := B212.out.cells8
      obtain ⟨f0, f1, f2, f3, f4, f5, f6, f7⟩ := B212.out.frozen8
      have lb2 := B212.out.lt
      have lb3 := B312.out.lt
      have HEN := Lib.hid (end8 B212.out (.int .u8 9) (.slice none 0 0) (.int .u8 (dm : Int)) (.int .i64 0) (.int .i64 z) (.int .i64 0) (.slice none 0 0) (.int .i64 o))
      go_wp2_with fail
      obtain ⟨e0, e1, e2, e3, e4, e5, e6, e7⟩ := HEN.out.cells8
      refine bodyPost_ret (v := .agg (clV (.mk 9 [] dm 0 z 0 [] o) (.slice none 0 0) (.slice none 0 0)).toArray) (by simp [results, Tryz.results86, go_sem, clV, Cl.kind, Cl.dom, Cl.idx, Cl.a, Cl.b, Cl.off, e0, e1, e2, e3, e4, e5, e6, e7]) rfl ?_
      have hf9 := fx_set8 w12 w.heap.size 0 (.int .u8 9) (.slice none 0 0) (.int .u8 (dm : Int)) (.int .i64 0) (.int .i64 z) (.int .i64 0) (.slice none 0 0) (.int .i64 o)
      refine ⟨_, .mk 9 [] dm 0 z 0 [] o, _, rfl, ⟨.slice none 0 0, .slice none 0 0, rfl, hasC_iff.2 ⟨nums_mk (by decide) HD.out in0 HZ.out in0 HOF.out.2, SlN.nil _ _, SlC.nil _ _⟩⟩, IR.item (k := 9) HTX.out (by decide) (by rw [HOF.out.1]; exact HIR.out), RP.fx HP12.out hf9 (fun b e => by omega), HF12.out.new hf9 (fun b e => .inr (by omega))⟩
    have q4 := bs_eq_no h4
    by_cases h5 : x = T5
    · have q5 : ((bs x).toList == (bs T5).toList) = true := by rw [h5]; simp
      have HTX : Hid (itemK t.text = 10) := by show _ = _; rw [HX.out, h5, ← hT5]; decide
      clear h0 h1 h2 h3 h4 h5
      have z0 : w4.cell? ⟨w1.heap.size, 0, none⟩ = some (.int .u8 0) := B34.out.cell 0
      have f0 := B34.out.frozen 0
      have lb3 := B34.out.lt
      have lp := RP.lt HP4.out
      obtain ⟨kk, off2, ⟨vv, hbp, hsp, hkp⟩, hrr⟩ := HPR.out
      have hkl : kk < ts.length := by rcases Nat.lt_or_ge kk ts.length with h | h; exact h; rw [List.drop_eq_nil_of_le h] at hrr; cases hrr
      have p1 : w4.cell? ⟨p, 1, none⟩ = some (.int .i64 (kk : Int)) := hbp.cell 1
      have g1 := hbp.frozen 1
      have hkb : kk ≤ 1000000 := by omega
      obtain ⟨w5, hw5⟩ : ∃ W, W = w4.setCell ⟨w1.heap.size, 0, none⟩ (.int .u8 10) := ⟨_, rfl⟩
      have hf5 : Fx (fun b => b = w1.heap.size) w4 w5 := hw5 ▸ Fx.set w4 w1.heap.size 0 _
      have RB5 : RB w5 p ts en kk 0 off2 := RB.fx ⟨vv, hbp, hsp, hkp⟩ hf5 (fun b e => by omega)
      obtain ⟨w6, hw6⟩ : ∃ W, W = w5.setCell ⟨p, 1, none⟩ (.int .i64 ((kk : Int) + 1)) := ⟨_, rfl⟩
      have hf6 : Fx (fun b => b = p) w5 w6 := hw6 ▸ Fx.set w5 p 1 _
      have HP6 : Hid (RP w6 p ts en (.ok r)) := ⟨kk + 1, off2, by rw [hw6]; exact RB5.step hkl, by rw [List.drop_eq_getElem_cons hkl] at hrr; injection hrr with _ hrr⟩
      have B26 := Lib.hid ((B24.out.fx hf5 (fun e => by omega)).fx hf6 (fun e => by omega))
      have B36 : Hid (Box w6 w1.heap.size #[.int .u8 10, .slice none 0 0, .int .u8 0, .int .i64 0, .int .i64 0, .int .i64 0, .slice none 0 0, .int .i64 o] 43) := by
        have h8 : Box w5 w1.heap.size #[.int .u8 10, .slice none 0 0, .int .u8 0, .int .i64 0, .int .i64 0, .int .i64 0, .slice none 0 0, .int .i64 o] 43 := by rw [hw5]; simpa using B34.out.set 0 (.int .u8 10)
        exact h8.fx hf6 (fun e => by omega)
      have HF6 := Lib.hid ((HF4.out.new hf5 (fun b e => .inr (by omega))).new hf6 (fun b e => .inl e))
      clear hf5 hf6 RB5 hbp hsp hrr
      go_wp2_with fail
      rw [← hw5, ← hw6]
      clear hw5 hw6 p1 g1 z0 f0 lb3 lp
      obtain ⟨nm, hnm⟩ : ∃ n, Hid ((outS nameP (.ok r)).getD [] = n) := ⟨_, rfl⟩
      have hnl : nm.length ≤ 9223372036854775807 := by have := RP.name HP6.out; rw [hnm.out] at this; exact this
      have lb6 := B36.out.lt
      have lb6b := B26.out.lt
      refine ritem_r24 (s := .ok r) (nl := []) _ (by kernel_rfl) hts HP6.out hnm hnl B36.out (⟨by simp, OwnC.nil _ _ _ 1⟩ : OwnN w6 w6.heap.size _ []) (by simp) hpb3 lb6 (Nat.le_refl _) ?_
      intro w7 v7 y64 y65 y66 y67 y68 y69 y70 hO hP hB hF
      have hBZ : ∀ b, (b = p ∨ b = w1.heap.size ∨ w6.heap.size ≤ b) → b ≠ w.heap.size := fun b e => by rcases e with e | e | e <;> omega
      have HBZ := Lib.hid hBZ
      have hBF : ∀ b, (b = p ∨ b = w1.heap.size ∨ w6.heap.size ≤ b) → b = p ∨ w.heap.size ≤ b := fun b e => by rcases e with e | e | e; exact .inl e; exact .inr (by omega); exact .inr (by omega)
      have HBF := Lib.hid hBF
      have hsz7 := hF.size
      have HO7 : Hid (OwnN w7 w6.heap.size v7 (nm :: [])) := hO
      have HP7 := Lib.hid hP
      have HB7 := Lib.hid hB
      have B27 := Lib.hid (B26.out.fx hF (fun e => HBZ.out _ e rfl))
      have HF7 := Lib.hid (HF6.out.new hF (fun b e => HBF.out b e))
      obtain ⟨s7, hs7⟩ : ∃ z, goS nameP (.ok r) = z := ⟨_, rfl⟩
      rw [hs7] at HP7
      have HS7 := Lib.hid hs7
      have hm7 := RP.meas HP7.out
      clear hO hP hB hF hBZ hBF hs7 B26 B36 HP6 HF6
      have h67 : w6.heap.size ≤ w7.heap.size := hsz7
      go_wp2_with fail
      go_loopg [] (measS s7) (fun gn wx => ∃ s acc v0, gn = measS s ∧ acc.length + measS s ≤ 1000 + ts.length ∧ Hid (∀ n : List UInt8, goS (moreM o [n]) s7 = goS (moreM o (n :: acc)) s ∧ outS (moreM o [n]) s7 = outS (moreM o (n :: acc)) s) ∧ Hid (RP wx p ts en s) ∧ Hid (OwnN wx w6.heap.size v0 (nm :: acc)) ∧ Hid (Box wx w1.heap.size #[.int .u8 10, v0, .int .u8 0, .int .i64 0, .int .i64 0, .int .i64 0, .slice none 0 0, .int .i64 o] 43) ∧ Hid (Box wx w.heap.size #[.int .u8 0, .slice none 0 0, .int .u8 0, .int .i64 0, .int .i64 0, .int .i64 0, .slice none 0 0, .int .i64 0] 43) ∧ Hid (Fx (fun b => b = p) w wx) ∧ w6.heap.size ≤ wx.heap.size)
      case atStart => exact ⟨s7, [], v7, rfl, by simp; omega, fun n => ⟨rfl, rfl⟩, HP7.out, HO7.out, HB7.out, B27.out, HF7.out, h67⟩
      case round =>
        obtain ⟨s, acc, v0, rfl, hac, hinv, HP, HO, HB, B2, HF, hsz⟩ := hrel
        obtain ⟨q0, cap0, rfl, _, _, _⟩ := HO.out.shape
        rw [List.length_cons] at HO HB
        go_wp2_with fail
        refine (ris_c _ p ts en s sComma HP.out).mono ?_
        rintro e w9 ⟨rfl, hb9⟩
        have HP9 := Lib.hid (RP.after HP.out hb9)
        have HO9 := Lib.hid (HO.out.fx (S := fun _ => False) (Fx.of_below hb9) (fun _ e => e.elim))
        have B39 := Lib.hid (HB.out.after hb9)
        have B29 := Lib.hid (B2.out.after hb9)
        have HF9 := Lib.hid (HF.out.below hb9)
        have hsz9 : w6.heap.size ≤ w9.heap.size := Nat.le_trans hsz hb9.size
        clear hb9 HP HO HB B2 HF hsz
        cases hisc : isS sComma s with
        | false =>
          have HIR : Hid (∀ n : List UInt8, IR (moreM o [n]) s7 (.mk 10 (n :: acc) 0 0 0 0 [] o) s) := fun n => by
            obtain ⟨g1, g2⟩ := hinv.out n
            obtain ⟨k1, k2⟩ := more_exit o (n :: acc) hisc
            exact ⟨by rw [g1]; exact k1, fun c0 h => k2 c0 (by rw [← g2]; exact h)⟩
          have HNM : Hid (SlN (fun b => w.heap.size ≤ b ∧ w6.heap.size ≤ b) w9 (.slice q0 (acc.length + 1) cap0) (nm :: acc)) := HO9.out.slN.mono (fun b hb _ => ⟨by have := hb.1; omega, hb.1⟩)
          clear HO9 hinv hisc
          go_wp2_with fail
          refine (rtake_c _ p ts en _ sSemi hts HP9.out).mono ?_
          rintro e w10 ⟨rfl, hp, hfx⟩
          have HP10 := Lib.hid hp
          have B210 := Lib.hid (B29.out.fx hfx (fun e => by omega))
          have B310 := Lib.hid (B39.out.fx hfx (fun e => by omega))
          have HF10 := Lib.hid (HF9.out.new hfx (fun b e => .inl e))
          replace HNM := Lib.hid (HNM.out.fx hfx (fun b hb _ e => by have := hb.1; have := hb.2; omega))
          clear hp hfx
          obtain ⟨z0, z1, z2, z3, z4, z5, z6, z7⟩ := B310.out.cells8
          obtain ⟨y0, y1, y2, y3, y4, y5, y6, y7⟩ := B210.out.cells8
          obtain ⟨f0, f1, f2, f3, f4, f5, f6, f7⟩ := B210.out.frozen8
          have lb2 := B210.out.lt
          have lb3 := B310.out.lt
          have HEN := Lib.hid (end8 B210.out (.int .u8 10) (.slice q0 (acc.length + 1) cap0) (.int .u8 0) (.int .i64 0) (.int .i64 0) (.int .i64 0) (.slice none 0 0) (.int .i64 o))
          go_wp2_with fail
          obtain ⟨e0, e1, e2, e3, e4, e5, e6, e7⟩ := HEN.out.cells8
          refine bodyPost_ret (v := .agg (clV (.mk 10 (nm :: acc) 0 0 0 0 [] o) (.slice q0 (acc.length + 1) cap0) (.slice none 0 0)).toArray) (by simp [results, Tryz.results86, go_sem, clV, Cl.kind, Cl.dom, Cl.idx, Cl.a, Cl.b, Cl.off, e0, e1, e2, e3, e4, e5, e6, e7]) rfl ?_
          have hf9 := fx_set8 w10 w.heap.size 0 (.int .u8 10) (.slice q0 (acc.length + 1) cap0) (.int .u8 0) (.int .i64 0) (.int .i64 0) (.int .i64 0) (.slice none 0 0) (.int .i64 o)
          refine ⟨_, .mk 10 (nm :: acc) 0 0 0 0 [] o, _, rfl, ⟨.slice q0 (acc.length + 1) cap0, .slice none 0 0, rfl, hasC_iff.2 ⟨nums_mk (by decide) (by decide) in0 in0 in0 HOF.out.2, SlN.mono (HNM.out.fx hf9 (fun b hb _ e => by have := hb.1; have := hb.2; omega)) (fun b hb _ => hb.1), SlC.nil _ _⟩⟩, IR.item (k := 10) HTX.out (by decide) (by rw [HOF.out.1]; have := ir_apart o (s := .ok r) (L := acc) (s2 := s) (by rw [HS7.out]; exact HIR.out); rw [hnm.out] at this; exact this), RP.fx HP10.out hf9 (fun b e => by omega), HF10.out.new hf9 (fun b e => .inr (by omega))⟩
        | true =>
          obtain ⟨t2, r2, rfl, hcm⟩ := isS_yes hisc
          obtain ⟨kk, off2, ⟨vv, hbp, hsp, hkp⟩, hrr⟩ := HP9.out
          have hkl : kk < ts.length := by rcases Nat.lt_or_ge kk ts.length with h | h; exact h; rw [List.drop_eq_nil_of_le h] at hrr; cases hrr
          have p1 : w9.cell? ⟨p, 1, none⟩ = some (.int .i64 (kk : Int)) := hbp.cell 1
          have g1 := hbp.frozen 1
          have hkb : kk ≤ 1000000 := by omega
          have lp := hbp.lt
          obtain ⟨wa, hwa⟩ : ∃ W, W = w9.setCell ⟨p, 1, none⟩ (.int .i64 ((kk : Int) + 1)) := ⟨_, rfl⟩
          have hfa : Fx (fun b => b = p) w9 wa := hwa ▸ Fx.set w9 p 1 _
          have HPa : Hid (RP wa p ts en (.ok r2)) := ⟨kk + 1, off2, by rw [hwa]; exact RB.step ⟨vv, hbp, hsp, hkp⟩ hkl, by rw [List.drop_eq_getElem_cons hkl] at hrr; injection hrr with _ hrr⟩
          have HOa := Lib.hid (HO9.out.fx hfa (fun b e hb => by have := hb.1; omega))
          have B3a := Lib.hid (B39.out.fx hfa (fun e => by omega))
          have B2a := Lib.hid (B29.out.fx hfa (fun e => by omega))
          have HFa := Lib.hid (HF9.out.new hfa (fun b e => .inl e))
          have hsza : w6.heap.size ≤ wa.heap.size := Nat.le_trans hsz9 hfa.size
          obtain ⟨h1, h2, h3⟩ := more_round o [] (r := r2) hcm
          clear h1 h2
          have HIN : Hid (∀ n : List UInt8, goS (moreM o [n]) s7 = goS (moreM o (n :: (acc ++ [(outS nameP (.ok r2)).getD []]))) (goS nameP (.ok r2)) ∧ outS (moreM o [n]) s7 = outS (moreM o (n :: (acc ++ [(outS nameP (.ok r2)).getD []]))) (goS nameP (.ok r2))) := fun n => by
            obtain ⟨u1, u2⟩ := hinv.out n
            obtain ⟨v1, v2, _⟩ := more_round o (n :: acc) (r := r2) hcm
            exact ⟨u1.trans v1, u2.trans v2⟩
          clear hbp hsp hrr hfa hinv HP9 HO9 B39 B29 HF9 hcm hisc
          go_wp2_with fail
          rw [← hwa]
          clear hwa p1 g1 lp
          obtain ⟨n2, hn2⟩ : ∃ n, Hid ((outS nameP (.ok r2)).getD [] = n) := ⟨_, rfl⟩
          have hnl2 : n2.length ≤ 9223372036854775807 := by have := RP.name HPa.out; rw [hn2.out] at this; exact this
          rw [hn2.out] at HIN
          have hac2 : acc.length + (r2.length + 2) ≤ 1000 + ts.length := by simp [measS] at hac; omega
          refine ritem_r27 (s := .ok r2) (nl := nm :: acc) _ (by kernel_rfl) hts HPa.out hn2 hnl2 B3a.out HOa.out (by simp; omega) hpb3 lb6 hsza ?_
          intro wz vz y80 y81 y82 y83 y84 y85 y86 hO hP hB hF
          have HOz := Lib.hid hO
          have HPz := Lib.hid hP
          have HBz := Lib.hid hB
          have B2z := Lib.hid (B2a.out.fx hF (fun e => HBZ.out _ e rfl))
          have HFz := Lib.hid (HFa.out.new hF (fun b e => HBF.out b e))
          have hszz := Nat.le_trans hsza hF.size
          clear hO hP hB hF
          go_wp2_with fail
          go_roundg (measS (goS nameP (.ok r2)))
          case measure => exact h3
          case rel => exact ⟨goS nameP (.ok r2), acc ++ [n2], vz, rfl, by simp [measS] at h3 ⊢; omega, HIN.out, HPz.out, HOz.out, HBz.out, B2z.out, HFz.out, hszz⟩
    have q5 := bs_eq_no h5
    by_cases h6 : x = T6
    · have q6 : ((bs x).toList == (bs T6).toList) = true := by rw [h6]; simp
      have HTX : Hid (itemK t.text = 11) := by show _ = _; rw [HX.out, h6, ← hT6]; decide
      clear h0 h1 h2 h3 h4 h5 h6
      have z0 : w4.cell? ⟨w1.heap.size, 0, none⟩ = some (.int .u8 0) := B34.out.cell 0
      have f0 := B34.out.frozen 0
      have lb3 := B34.out.lt
      have lp := RP.lt HP4.out
      obtain ⟨kk, off2, ⟨vv, hbp, hsp, hkp⟩, hrr⟩ := HPR.out
      have hkl : kk < ts.length := by rcases Nat.lt_or_ge kk ts.length with h | h; exact h; rw [List.drop_eq_nil_of_le h] at hrr; cases hrr
      have p1 : w4.cell? ⟨p, 1, none⟩ = some (.int .i64 (kk : Int)) := hbp.cell 1
      have g1 := hbp.frozen 1
      have hkb : kk ≤ 1000000 := by omega
      obtain ⟨w5, hw5⟩ : ∃ W, W = w4.setCell ⟨w1.heap.size, 0, none⟩ (.int .u8 11) := ⟨_, rfl⟩
      have hf5 : Fx (fun b => b = w1.heap.size) w4 w5 := hw5 ▸ Fx.set w4 w1.heap.size 0 _
      have RB5 : RB w5 p ts en kk 0 off2 := RB.fx ⟨vv, hbp, hsp, hkp⟩ hf5 (fun b e => by omega)
      obtain ⟨w6, hw6⟩ : ∃ W, W = w5.setCell ⟨p, 1, none⟩ (.int .i64 ((kk : Int) + 1)) := ⟨_, rfl⟩
      have hf6 : Fx (fun b => b = p) w5 w6 := hw6 ▸ Fx.set w5 p 1 _
      have HP6 : Hid (RP w6 p ts en (.ok r)) := ⟨kk + 1, off2, by rw [hw6]; exact RB5.step hkl, by rw [List.drop_eq_getElem_cons hkl] at hrr; injection hrr with _ hrr⟩
      have B26 := Lib.hid ((B24.out.fx hf5 (fun e => by omega)).fx hf6 (fun e => by omega))
      have B36 : Hid (Box w6 w1.heap.size #[.int .u8 11, .slice none 0 0, .int .u8 0, .int .i64 0, .int .i64 0, .int .i64 0, .slice none 0 0, .int .i64 o] 43) := by
        have h8 : Box w5 w1.heap.size #[.int .u8 11, .slice none 0 0, .int .u8 0, .int .i64 0, .int .i64 0, .int .i64 0, .slice none 0 0, .int .i64 o] 43 := by rw [hw5]; simpa using B34.out.set 0 (.int .u8 11)
        exact h8.fx hf6 (fun e => by omega)
      have HF6 := Lib.hid ((HF4.out.new hf5 (fun b e => .inr (by omega))).new hf6 (fun b e => .inl e))
      clear hf5 hf6 RB5 hbp hsp hrr
      go_wp2_with fail
      rw [← hw5, ← hw6]
      clear hw5 hw6 p1 g1 z0 f0 lb3 lp
      refine (rname_c _ p ts en _ hts HP6.out).mono ?_
      rintro e w7 ⟨rfl, hp, hfx⟩
      have HP7 := Lib.hid hp
      have B27 := Lib.hid (B26.out.fx hfx (fun e => by omega))
      have B37 := Lib.hid (B36.out.fx hfx (fun e => by omega))
      have HF7 := Lib.hid (HF6.out.new hfx (fun b e => .inl e))
      clear hp hfx
      have HNL := Lib.hid (RP.name HP6.out)
      have HIR := Lib.hid (ir_near o (.ok r))
      obtain ⟨nm, hnm⟩ : ∃ n, (outS nameP (.ok r)).getD [] = n := ⟨_, rfl⟩
      rw [hnm] at HNL HIR ⊢
      clear hnm
      have z1 : w7.cell? ⟨w1.heap.size, 1, none⟩ = some (.slice none 0 0) := B37.out.cell 1
      have f1 := B37.out.frozen 1
      have lb3 := B37.out.lt
      have lp := RP.lt HP7.out
      obtain ⟨w8, hw8⟩ : ∃ W, W = w7.setCell ⟨w1.heap.size, 1, none⟩ (.slice (some ⟨w7.heap.size, 0, none⟩) 1 1) := ⟨_, rfl⟩
      have hs8 : w8.heap.size = w7.heap.size := by rw [hw8]; simp [World.setCell]
      have hf8 : Fx (fun b => b = w1.heap.size) w7 w8 := hw8 ▸ Fx.set w7 w1.heap.size 1 _
      obtain ⟨w9, hw9⟩ : ∃ W, W = w8.alloc (.cells #[.string (bs nm)] 9) := ⟨_, rfl⟩
      have hb9 : Below w8.heap.size w8 w9 := hw9 ▸ held_alloc (Below.refl _ _)
      have hna := OwnN.one w8 w.heap.size nm HNL.out (Nat.le_trans HF7.out.size hf8.size)
      rw [← hw9, hs8] at hna
      have HNM : Hid (SlN (fun b => w.heap.size ≤ b ∧ w7.heap.size ≤ b) w9 (.slice (some ⟨w7.heap.size, 0, none⟩) 1 1) [nm]) := hna.slN.mono (fun b hb _ => ⟨hb.1, by have h := hb.2; injection h with h; rw [h]; exact Nat.le_refl _⟩)
      have HP9 := Lib.hid ((RP.fx HP7.out hf8 (fun b e => by omega)).after hb9)
      have B29 := Lib.hid ((B27.out.fx hf8 (fun e => by omega)).after hb9)
      have B39 : Hid (Box w9 w1.heap.size #[.int .u8 11, .slice (some ⟨w7.heap.size, 0, none⟩) 1 1, .int .u8 0, .int .i64 0, .int .i64 0, .int .i64 0, .slice none 0 0, .int .i64 o] 43) := by
        have h8 : Box w8 w1.heap.size #[.int .u8 11, .slice (some ⟨w7.heap.size, 0, none⟩) 1 1, .int .u8 0, .int .i64 0, .int .i64 0, .int .i64 0, .slice none 0 0, .int .i64 o] 43 := by rw [hw8]; simpa using B37.out.set 1 (.slice (some ⟨w7.heap.size, 0, none⟩) 1 1)
        exact h8.after hb9
      have HF9 := Lib.hid ((HF7.out.new hf8 (fun b e => .inr (by omega))).below hb9)
      have hl79 : w1.heap.size < w7.heap.size := lb3
      clear hf8 hb9 hna
      go_wp2_with fail
      rw [← hw8, ← hw9]
      clear hw8 hw9 hs8 z1 f1 lb3 lp
      refine (rtake_c _ p ts en _ sWithin hts HP9.out).mono ?_
      rintro e w10 ⟨rfl, hp, hfx⟩
      have HP10 := Lib.hid hp
      have B210 := Lib.hid (B29.out.fx hfx (fun e => by omega))
      have B310 := Lib.hid (B39.out.fx hfx (fun e => by omega))
      have HF10 := Lib.hid (HF9.out.new hfx (fun b e => .inl e))
      replace HNM := Lib.hid (HNM.out.fx hfx (fun b hb _ e => by have := hb.1; have := hb.2; omega))
      clear hp hfx
      go_wp2_with fail
      refine (rnumber_c _ p ts en _ hts HP10.out).mono ?_
      rintro e w11 ⟨rfl, hp, hfx⟩
      have HP11 := Lib.hid hp
      have B211 := Lib.hid (B210.out.fx hfx (fun e => by omega))
      have B311 := Lib.hid (B310.out.fx hfx (fun e => by omega))
      have HF11 := Lib.hid (HF10.out.new hfx (fun b e => .inl e))
      replace HNM := Lib.hid (HNM.out.fx hfx (fun b hb _ e => by have := hb.1; have := hb.2; omega))
      clear hp hfx
      have HZ := Lib.hid (RP.num HP10.out)
      obtain ⟨z, hz⟩ : ∃ z, (outS numP (goS (wantP sWithin) (goS nameP (.ok r)))).getD 0 = z := ⟨_, rfl⟩
      rw [hz] at HZ HIR ⊢
      clear hz
      have z0 : w11.cell? ⟨w1.heap.size, 0, none⟩ = some (.int .u8 11) := B311.out.cell 0
      have f0 := B311.out.frozen 0
      have z4 : w11.cell? ⟨w1.heap.size, 4, none⟩ = some (.int .i64 0) := B311.out.cell 4
      have f4 := B311.out.frozen 4
      have lb3 := B311.out.lt
      have lp := RP.lt HP11.out
      obtain ⟨w12, hw12⟩ : ∃ W, W = w11.setCell ⟨w1.heap.size, 4, none⟩ (.int .i64 z) := ⟨_, rfl⟩
      have hfx : Fx (fun b => b = w1.heap.size) w11 w12 := hw12 ▸ Fx.set w11 w1.heap.size 4 _
      have HP12 := Lib.hid (RP.fx HP11.out hfx (fun b e => by omega))
      have B212 := Lib.hid (B211.out.fx hfx (fun e => by omega))
      have B312 : Hid (Box w12 w1.heap.size #[.int .u8 11, .slice (some ⟨w7.heap.size, 0, none⟩) 1 1, .int .u8 0, .int .i64 0, .int .i64 z, .int .i64 0, .slice none 0 0, .int .i64 o] 43) := by show Box _ _ _ _; rw [hw12]; simpa using B311.out.set 4 (.int .i64 z)
      have HF12 := Lib.hid (HF11.out.new hfx (fun b e => .inr (by omega)))
      replace HNM := Lib.hid (HNM.out.fx hfx (fun b hb _ e => by have := hb.1; have := hb.2; omega))
      clear hfx
      go_wp2_with fail
      rw [← hw12]
      clear hw12
      clear z0 f0 z4 f4 lb3 lp
      refine (rtake_c _ p ts en _ sSemi hts HP12.out).mono ?_
      rintro e w13 ⟨rfl, hp, hfx⟩
      have HP13 := Lib.hid hp
      have B213 := Lib.hid (B212.out.fx hfx (fun e => by omega))
      have B313 := Lib.hid (B312.out.fx hfx (fun e => by omega))
      have HF13 := Lib.hid (HF12.out.new hfx (fun b e => .inl e))
      replace HNM := Lib.hid (HNM.out.fx hfx (fun b hb _ e => by have := hb.1; have := hb.2; omega))
      clear hp hfx
      obtain ⟨z0, z1, z2, z3, z4, z5, z6, z7⟩ := B313.out.cells8
      obtain ⟨y0, y1, y2, y3, y4, y5, y6, y7⟩ := B213.out.cells8
      obtain ⟨f0, f1, f2, f3, f4, f5, f6, f7⟩ := B213.out.frozen8
      have lb2 := B213.out.lt
      have lb3 := B313.out.lt
      have HEN := Lib.hid (end8 B213.out (.int .u8 11) (.slice (some ⟨w7.heap.size, 0, none⟩) 1 1) (.int .u8 0) (.int .i64 0) (.int .i64 z) (.int .i64 0) (.slice none 0 0) (.int .i64 o))
      go_wp2_with fail
      obtain ⟨e0, e1, e2, e3, e4, e5, e6, e7⟩ := HEN.out.cells8
      refine bodyPost_ret (v := .agg (clV (.mk 11 [nm] 0 0 z 0 [] o) (.slice (some ⟨w7.heap.size, 0, none⟩) 1 1) (.slice none 0 0)).toArray) (by simp [results, Tryz.results86, go_sem, clV, Cl.kind, Cl.dom, Cl.idx, Cl.a, Cl.b, Cl.off, e0, e1, e2, e3, e4, e5, e6, e7]) rfl ?_
      have hf9 := fx_set8 w13 w.heap.size 0 (.int .u8 11) (.slice (some ⟨w7.heap.size, 0, none⟩) 1 1) (.int .u8 0) (.int .i64 0) (.int .i64 z) (.int .i64 0) (.slice none 0 0) (.int .i64 o)
      refine ⟨_, .mk 11 [nm] 0 0 z 0 [] o, _, rfl, ⟨.slice (some ⟨w7.heap.size, 0, none⟩) 1 1, .slice none 0 0, rfl, hasC_iff.2 ⟨nums_mk (by decide) (by decide) in0 HZ.out in0 HOF.out.2, SlN.mono (HNM.out.fx hf9 (fun b hb _ e => by have := hb.1; have := hb.2; omega)) (fun b hb _ => hb.1), SlC.nil _ _⟩⟩, IR.item (k := 11) HTX.out (by decide) (by rw [HOF.out.1]; exact HIR.out), RP.fx HP13.out hf9 (fun b e => by omega), HF13.out.new hf9 (fun b e => .inr (by omega))⟩
    have q6 := bs_eq_no h6
    have HIRF : Hid (IR itemP (.ok (t :: r)) (.mk 0 [] 0 0 0 0 [] o) (failS (.ok (t :: r)))) := IR.fail (t := t) (r := r) _ (by rw [itemP_at, if_pos]; unfold itemK; rw [HX.out]; simp only [hT0, hT1, hT2, hT3, hT4, hT5, hT6]; simp [h0, h1, h2, h3, h4, h5, h6])
    replace HOF := Lib.hid HOF.out.2
    clear h0 h1 h2 h3 h4 h5 h6
    go_wp2_with fail
    refine (rfail_c _ p ts en _ HP4.out).mono ?_
    rintro e w5 ⟨rfl, hp, hfx⟩
    have HP5 := Lib.hid hp
    have B25 := Lib.hid (B24.out.fx hfx (fun e => by omega))
    have B35 := Lib.hid (B34.out.fx hfx (fun e => by omega))
    have HF5 := Lib.hid (HF4.out.new hfx (fun b e => .inl e))
    clear hp hfx
    obtain ⟨z0, z1, z2, z3, z4, z5, z6, z7⟩ := B35.out.cells8
    obtain ⟨y0, y1, y2, y3, y4, y5, y6, y7⟩ := B25.out.cells8
    obtain ⟨f0, f1, f2, f3, f4, f5, f6, f7⟩ := B25.out.frozen8
    have lb2 := B25.out.lt
    have lb3 := B35.out.lt
    have HEN := Lib.hid (end8 B25.out (.int .u8 0) (.slice none 0 0) (.int .u8 0) (.int .i64 0) (.int .i64 0) (.int .i64 0) (.slice none 0 0) (.int .i64 o))
    go_wp2_with fail
    obtain ⟨e0, e1, e2, e3, e4, e5, e6, e7⟩ := HEN.out.cells8
    refine bodyPost_ret (v := .agg (clV (.mk 0 [] 0 0 0 0 [] o) (.slice none 0 0) (.slice none 0 0)).toArray) (by simp [results, Tryz.results86, go_sem, clV, Cl.kind, Cl.dom, Cl.idx, Cl.a, Cl.b, Cl.off, e0, e1, e2, e3, e4, e5, e6, e7]) rfl ?_
    have hf9 := fx_set8 w5 w.heap.size 0 (.int .u8 0) (.slice none 0 0) (.int .u8 0) (.int .i64 0) (.int .i64 0) (.int .i64 0) (.slice none 0 0) (.int .i64 o)
    refine ⟨_, .mk 0 [] 0 0 0 0 [] o, _, rfl, ⟨.slice none 0 0, .slice none 0 0, rfl, hasC_iff.2 ⟨nums_mk (by decide) (by decide) in0 in0 in0 HOF.out, SlN.nil _ _, SlC.nil _ _⟩⟩, HIRF.out, RP.fx HP5.out hf9 (fun b e => by omega), HF5.out.new hf9 (fun b e => .inr (by omega))⟩
end Go.Proofs.YtganlldidjbpiaaGreatDoor
