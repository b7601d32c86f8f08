/- Syntax, the reference: name and scope. -/
import Derived.Test.YtganlldidjbpiaaGreatDoorQSyU5a
import Derived.Test.YtganlldidjbpiaaGreatDoorQSyU5b
set_option linter.unusedVariables false
namespace Go.Proofs.YtganlldidjbpiaaGreatDoor
open Go.RowKit Go.Shelf

theorem nameT_yes {t : Tok} {r : List Tok} (h1 : t.kind = 1) (h2 : isWord t.text = false) : nameP (t :: r) = .ok (t.text, r) := by
  unfold nameP
  rw [nextP_at, if_pos (by unfold namedT; rw [h1, h2]; rfl)]
  rfl
theorem nameT_no {t : Tok} {r : List Tok} (h : ¬ t.kind = 1 ∨ isWord t.text = true) : nameP (t :: r) = .error (t :: r) := by
  unfold nameP
  rw [nextP_at, if_neg]
  · rfl
  · unfold namedT
    rcases h with h | h
    · simp [h]
    · simp [h]
theorem scopeT_yes {t : Tok} {r : List Tok} (h : ¬ scopeN t.text = 0) : scopeP (t :: r) = .ok (scopeN t.text, r) := by
  unfold scopeP
  rw [nextP_at, if_pos (by unfold scopedT; simpa using h)]
  rfl
theorem scopeT_no {t : Tok} {r : List Tok} (h : scopeN t.text = 0) : scopeP (t :: r) = .error (t :: r) := by
  unfold scopeP
  rw [nextP_at, if_neg (by unfold scopedT; simp [h])]
  rfl
set_option maxRecDepth 100000 in
set_option maxHeartbeats 8000000 in
theorem rname_c (w : World) (p : Nat) (ts : List Tok) (en : Int) (s : Except (List Tok) (List Tok)) (hts : ts.length ≤ 1000000) (h : RP w p ts en s) : Calls Tryz.prog 84 #[.pointer (some ⟨p, 0, none⟩)] w (RR p ts en w nameP (fun x => .string (bs x)) [] s) := by
  unfold RR
  cases s with
  | error r =>
    obtain ⟨k, v, hb, hs, hk⟩ := h
    have c3 : w.cell? ⟨p, 3, none⟩ = some (.int .i64 4) := hb.cell 3
    have H : Hid (RP w p ts en (.error r)) := ⟨k, v, hb, hs, hk⟩
    have hlp := hb.lt
    rw [(out_err nameP r).1, (out_err nameP r).2]
    clear hb hs hk
    go_enter Tryz.func84, Tryz.ntmps84
    go_wp2_with fail
    refine rname_err _ (by kernel_rfl) c3 ?_
    intro W y3 y4 y5 y6 y7 y8 y9 y10 y11 y12 y13 y14 y15 y16 y17 y18 y19 y20 y21 y22 y23 y24 y25 y26 y27 y28 y29 y30 y31 y32 y33 y34 y35 y36 y37 y38 y39 y40 y41 y42 y43 y44 y45 y46 hbW
    go_wp2_with fail
    refine (rfail_c _ p ts en _ (H.out.after hbW)).mono ?_
    rintro e w2 ⟨rfl, hp2, hf2⟩
    have HP2 := Lib.hid hp2
    have HF2 := Lib.hid ((Fx.of_below (S := fun b => b = p) hbW).trans hf2)
    clear hp2 hf2
    go_wp2_with fail
    go_ret
    exact ⟨rfl, HP2.out, HF2.out⟩
  | ok r =>
    have H := Lib.hid h
    obtain ⟨k, off, ⟨v, hb, hs, hk⟩, hr⟩ := h
    have c3 : w.cell? ⟨p, 3, none⟩ = some (.int .i64 0) := hb.cell 3
    have c1 : w.cell? ⟨p, 1, none⟩ = some (.int .i64 (k : Int)) := hb.cell 1
    have c0 := hb.cell 0
    have hlp := hb.lt
    by_cases hlt : k < ts.length
    · obtain ⟨b, o, cap, t, rfl, h2, h3, hlb, hd, hok, k0, k1, k2, k3⟩ := hs.tok_at hlt
      have c0 : w.cell? ⟨p, 0, none⟩ = some (.slice (some ⟨b, o, none⟩) ts.length cap) := c0
      have hkb : k ≤ 1000000 := by omega
      rw [hd] at hr
      obtain ⟨x, hx⟩ : ∃ x, t.text = x := ⟨_, rfl⟩
      rw [hx] at k1
      have hpb : b < p := by
        obtain ⟨b', o', c', e', _, _, hlt', _⟩ := hs.2.at_ (by omega)
        injection e' with e' _ _
        injection e' with e'
        injection e' with e1 e2 e3
        omega
      have HST : Hid (∀ W, Below w.heap.size w W → RB (W.setCell ⟨p, 1, none⟩ (.int .i64 ((k : Int) + 1))) p ts en (k + 1) 0 off) := fun W hbW => RB.step (RB.after ⟨_, hb, hs, hk⟩ hbW) hlt
      have f1 := hb.frozen 1
      have HLT := Lib.hid hlt
      have HB := Lib.hid hb
      by_cases he : t.kind = 1
      · cases hw : isWord t.text with
        | false =>
          have hn := nameT_yes (r := ts.drop (k + 1)) he hw
          rw [hr, (out_yes hn).1, (out_yes hn).2]
          have HW : Hid (isWord x = false) := by show _ = _; rw [← hx]; exact hw
          have k0' : w.cell? ⟨b, o + k * 4, none⟩ = some (.int .u8 (t.kind : Int)) := k0
          clear hb hs hd hr H hw hn
          go_enter Tryz.func84, Tryz.ntmps84
          go_wp2_with fail
          refine rname_tok _ (by kernel_rfl) c3 c1 c0 hlt k0' he k1 ?_
          rw [HW.out]
          intro W y3 y4 y5 y6 y7 y8 y9 y10 y11 y12 y13 y14 y15 y16 y17 y18 y19 y20 y21 y22 y23 y24 y25 y26 y27 y28 y29 y30 y31 y32 y33 y34 y35 y36 y37 y38 y39 y40 y41 y42 y43 y44 y45 y46 hbW
          have BP := Lib.hid (HB.out.after hbW)
          have HR2 := Lib.hid (HST.out W hbW)
          have k1w := keep_cell hbW k1
          have c1w : W.cell? ⟨p, 1, none⟩ = some (.int .i64 (k : Int)) := BP.out.cell 1
          have f1 := BP.out.frozen 1
          have hlpw := BP.out.lt
          have hlbw := World.block_lt_of_cell? _ _ k1w
          simp only at hlbw
          clear k1 c1 c0 c3
          go_upto_region 5 with fail
          obtain ⟨W2, hW2⟩ : ∃ W2, W2 = W.setCell ⟨p, 1, none⟩ (.int .i64 ((k : Int) + 1)) := ⟨_, rfl⟩
          have hf2 : Fx (fun b => b = p) W W2 := hW2 ▸ Fx.set W p 1 _
          have HR3 : Hid (RB W2 p ts en (k + 1) 0 off) := by rw [hW2]; exact HR2.out
          have k1z : W2.cell? ⟨b, o + k * 4 + 1, none⟩ = some (.string (bs x)) := hf2.cell k1w (by omega)
          rw [← hW2]
          have HF2 := Lib.hid ((Fx.of_below (S := fun b => b = p) hbW).trans hf2)
          have bx2 : Box W2 p #[.slice (some ⟨b, o, none⟩) ts.length cap, .int .i64 ((k : Int) + 1), .int .i64 en, .int .i64 0, .int .i64 off] 54 := by rw [hW2]; simpa using BP.out.set 1 (.int .i64 ((k : Int) + 1))
          have c0z := bx2.cell 0
          have c1z : W2.cell? ⟨p, 1, none⟩ = some (.int .i64 ((k : Int) + 1)) := bx2.cell 1
          have c3z : W2.cell? ⟨p, 3, none⟩ = some (.int .i64 0) := bx2.cell 3
          have c0z : W2.cell? ⟨p, 0, none⟩ = some (.slice (some ⟨b, o, none⟩) ts.length cap) := c0z
          have hlp2 := bx2.lt
          have hlb2 := World.block_lt_of_cell? _ _ k1z
          simp only at hlb2
          clear hW2 hf2 bx2 k1w c1w f1 hlpw hlbw hbW BP HR2

          have q1 : (k : Int) < (ts.length : Int) := by have := HLT.out; omega
          have q3 : (0 : Int) ≤ (k : Int) := by omega
          go_wp2_with fail
          go_quiet (fail)
          go_wp2_with fail
          go_ret
          rw [hx]
          exact ⟨rfl, ⟨k + 1, off, HR3.out.after (below_drewN _ _ _), rfl⟩, HF2.out.below (below_drewN _ _ _)⟩
        | true =>
          have hn := nameT_no (t := t) (r := ts.drop (k + 1)) (.inr hw)
          rw [hr, (out_no hn).1, (out_no hn).2]
          rw [hr] at H
          have HW : Hid (isWord x = true) := by show _ = _; rw [← hx]; exact hw
          clear hb hs hd hr hw hn
          go_enter Tryz.func84, Tryz.ntmps84
          go_wp2_with fail
          refine rname_tok _ (by kernel_rfl) c3 c1 c0 hlt k0 he k1 ?_
          rw [HW.out]
          intro W y3 y4 y5 y6 y7 y8 y9 y10 y11 y12 y13 y14 y15 y16 y17 y18 y19 y20 y21 y22 y23 y24 y25 y26 y27 y28 y29 y30 y31 y32 y33 y34 y35 y36 y37 y38 y39 y40 y41 y42 y43 y44 y45 y46 hbW
          go_wp2_with fail
          refine (rfail_c _ p ts en _ (H.out.after hbW)).mono ?_
          rintro e w2 ⟨rfl, hp2, hf2⟩
          have HP2 := Lib.hid hp2
          have HF2 := Lib.hid ((Fx.of_below (S := fun b => b = p) hbW).trans hf2)
          clear hp2 hf2
          go_wp2_with fail
          go_ret
          exact ⟨rfl, HP2.out, HF2.out⟩
      · have hn := nameT_no (t := t) (r := ts.drop (k + 1)) (.inl he)
        rw [hr, (out_no hn).1, (out_no hn).2]
        rw [hr] at H
        clear hb hs hd hr hn
        go_enter Tryz.func84, Tryz.ntmps84
        go_wp2_with fail
        refine rname_oth _ (by kernel_rfl) c3 c1 c0 hlt k0 he ?_
        intro W y3 y4 y5 y6 y7 y8 y9 y10 y11 y12 y13 y14 y15 y16 y17 y18 y19 y20 y21 y22 y23 y24 y25 y26 y27 y28 y29 y30 y31 y32 y33 y34 y35 y36 y37 y38 y39 y40 y41 y42 y43 y44 y45 y46 hbW
        go_wp2_with fail
        refine (rfail_c _ p ts en _ (H.out.after hbW)).mono ?_
        rintro e w2 ⟨rfl, hp2, hf2⟩
        have HP2 := Lib.hid hp2
        have HF2 := Lib.hid ((Fx.of_below (S := fun b => b = p) hbW).trans hf2)
        clear hp2 hf2
        go_wp2_with fail
        go_ret
        exact ⟨rfl, HP2.out, HF2.out⟩
    · obtain ⟨a0, cap, rfl, _⟩ := hs.2.shape
      have c0 : w.cell? ⟨p, 0, none⟩ = some (.slice a0 ts.length cap) := c0
      rw [List.drop_eq_nil_of_le (by omega)] at hr
      rw [hr, (out_no (x := nameP) (r := []) rfl).1, (out_no (x := nameP) (r := []) rfl).2]
      rw [hr] at H
      clear hb hs hr
      go_enter Tryz.func84, Tryz.ntmps84
      go_wp2_with fail
      refine rname_nil _ (by kernel_rfl) c3 c1 c0 (by omega) ?_
      intro W y3 y4 y5 y6 y7 y8 y9 y10 y11 y12 y13 y14 y15 y16 y17 y18 y19 y20 y21 y22 y23 y24 y25 y26 y27 y28 y29 y30 y31 y32 y33 y34 y35 y36 y37 y38 y39 y40 y41 y42 y43 y44 y45 y46 hbW
      go_wp2_with fail
      refine (rfail_c _ p ts en _ (H.out.after hbW)).mono ?_
      rintro e w2 ⟨rfl, hp2, hf2⟩
      have HP2 := Lib.hid hp2
      have HF2 := Lib.hid ((Fx.of_below (S := fun b => b = p) hbW).trans hf2)
      clear hp2 hf2
      go_wp2_with fail
      go_ret
      exact ⟨rfl, HP2.out, HF2.out⟩
set_option maxRecDepth 100000 in
set_option maxHeartbeats 8000000 in
theorem rscope_c (w : World) (p : Nat) (ts : List Tok) (en : Int) (s : Except (List Tok) (List Tok)) (hts : ts.length ≤ 1000000) (h : RP w p ts en s) : Calls Tryz.prog 42 #[.pointer (some ⟨p, 0, none⟩)] w (RR p ts en w scopeP (fun d => .int .u8 ((d : Nat) : Int)) 0 s) := by
  unfold RR
  cases s with
  | error r =>
    obtain ⟨k, v, hb, hs, hk⟩ := h
    have c3 : w.cell? ⟨p, 3, none⟩ = some (.int .i64 4) := hb.cell 3
    have H : Hid (RP w p ts en (.error r)) := ⟨k, v, hb, hs, hk⟩
    have hlp := hb.lt
    rw [(out_err scopeP r).1, (out_err scopeP r).2]
    clear hb hs hk
    go_enter Tryz.func42, Tryz.ntmps42
    go_wp2_with fail
    refine rscope_err _ (by kernel_rfl) c3 ?_
    intro W y3 y4 y5 y6 y7 y8 y9 y10 y11 y12 y13 y14 y15 y16 y17 y18 y19 y20 y21 y22 y23 y24 y25 y26 y27 y28 y29 y30 y31 y32 y33 hbW
    go_wp2_with fail
    refine (rfail_c _ p ts en _ (H.out.after hbW)).mono ?_
    rintro e w2 ⟨rfl, hp2, hf2⟩
    have HP2 := Lib.hid hp2
    have HF2 := Lib.hid ((Fx.of_below (S := fun b => b = p) hbW).trans hf2)
    clear hp2 hf2
    go_wp2_with fail
    go_ret
    exact ⟨rfl, HP2.out, HF2.out⟩
  | ok r =>
    have H := Lib.hid h
    obtain ⟨k, off, ⟨v, hb, hs, hk⟩, hr⟩ := h
    have c3 : w.cell? ⟨p, 3, none⟩ = some (.int .i64 0) := hb.cell 3
    have c1 : w.cell? ⟨p, 1, none⟩ = some (.int .i64 (k : Int)) := hb.cell 1
    have c0 := hb.cell 0
    have hlp := hb.lt
    by_cases hlt : k < ts.length
    · obtain ⟨b, o, cap, t, rfl, h2, h3, hlb, hd, hok, k0, k1, k2, k3⟩ := hs.tok_at hlt
      have c0 : w.cell? ⟨p, 0, none⟩ = some (.slice (some ⟨b, o, none⟩) ts.length cap) := c0
      have hkb : k ≤ 1000000 := by omega
      rw [hd] at hr
      obtain ⟨x, hx⟩ : ∃ x, t.text = x := ⟨_, rfl⟩
      rw [hx] at k1
      have hpb : b < p := by
        obtain ⟨b', o', c', e', _, _, hlt', _⟩ := hs.2.at_ (by omega)
        injection e' with e' _ _
        injection e' with e'
        injection e' with e1 e2 e3
        omega
      have HST : Hid (∀ W, Below w.heap.size w W → RB (W.setCell ⟨p, 1, none⟩ (.int .i64 ((k : Int) + 1))) p ts en (k + 1) 0 off) := fun W hbW => RB.step (RB.after ⟨_, hb, hs, hk⟩ hbW) hlt
      have f1 := hb.frozen 1
      have HLT := Lib.hid hlt
      have HB := Lib.hid hb
      by_cases he : scopeN t.text = 0
      · have hn := scopeT_no (t := t) (r := ts.drop (k + 1)) he
        rw [hr, (out_no hn).1, (out_no hn).2]
        rw [hr] at H
        have hB : (((scopeN x : Nat) : Int) == 0) = true := by rw [← hx, he]; rfl
        clear hb hs hd hr hn he
        go_enter Tryz.func42, Tryz.ntmps42
        go_wp2_with fail
        refine rscope_tok _ (by kernel_rfl) c3 c1 c0 hlt k1 hB ?_
        intro W y3 y4 y5 y6 y7 y8 y9 y10 y11 y12 y13 y14 y15 y16 y17 y18 y19 y20 y21 y22 y23 y24 y25 y26 y27 y28 y29 y30 y31 y32 y33 hbW
        go_wp2_with fail
        refine (rfail_c _ p ts en _ (H.out.after hbW)).mono ?_
        rintro e w2 ⟨rfl, hp2, hf2⟩
        have HP2 := Lib.hid hp2
        have HF2 := Lib.hid ((Fx.of_below (S := fun b => b = p) hbW).trans hf2)
        clear hp2 hf2
        go_wp2_with fail
        go_ret
        exact ⟨rfl, HP2.out, HF2.out⟩
      · have hn := scopeT_yes (r := ts.drop (k + 1)) he
        rw [hr, (out_yes hn).1, (out_yes hn).2]
        have hB : (((scopeN x : Nat) : Int) == 0) = false := by rw [← hx]; simp; omega
        clear hb hs hd hr H hn he
        go_enter Tryz.func42, Tryz.ntmps42
        go_wp2_with fail
        refine rscope_tok _ (by kernel_rfl) c3 c1 c0 hlt k1 hB ?_
        clear hB
        intro W y3 y4 y5 y6 y7 y8 y9 y10 y11 y12 y13 y14 y15 y16 y17 y18 y19 y20 y21 y22 y23 y24 y25 y26 y27 y28 y29 y30 y31 y32 y33 hbW
        have BP := Lib.hid (HB.out.after hbW)
        have HR2 := Lib.hid (HST.out W hbW)
        have k1w := keep_cell hbW k1
        have c1w : W.cell? ⟨p, 1, none⟩ = some (.int .i64 (k : Int)) := BP.out.cell 1
        have f1 := BP.out.frozen 1
        have hlpw := BP.out.lt
        have hlbw := World.block_lt_of_cell? _ _ k1w
        simp only at hlbw
        clear k1 c1 c0 c3
        go_upto_region 5 with fail
        obtain ⟨W2, hW2⟩ : ∃ W2, W2 = W.setCell ⟨p, 1, none⟩ (.int .i64 ((k : Int) + 1)) := ⟨_, rfl⟩
        have hf2 : Fx (fun b => b = p) W W2 := hW2 ▸ Fx.set W p 1 _
        have HR3 : Hid (RB W2 p ts en (k + 1) 0 off) := by rw [hW2]; exact HR2.out
        have k1z : W2.cell? ⟨b, o + k * 4 + 1, none⟩ = some (.string (bs x)) := hf2.cell k1w (by omega)
        rw [← hW2]
        have HF2 := Lib.hid ((Fx.of_below (S := fun b => b = p) hbW).trans hf2)
        have bx2 : Box W2 p #[.slice (some ⟨b, o, none⟩) ts.length cap, .int .i64 ((k : Int) + 1), .int .i64 en, .int .i64 0, .int .i64 off] 54 := by rw [hW2]; simpa using BP.out.set 1 (.int .i64 ((k : Int) + 1))
        have c0z := bx2.cell 0
        have c1z : W2.cell? ⟨p, 1, none⟩ = some (.int .i64 ((k : Int) + 1)) := bx2.cell 1
        have c3z : W2.cell? ⟨p, 3, none⟩ = some (.int .i64 0) := bx2.cell 3
        have c0z : W2.cell? ⟨p, 0, none⟩ = some (.slice (some ⟨b, o, none⟩) ts.length cap) := c0z
        have hlp2 := bx2.lt
        have hlb2 := World.block_lt_of_cell? _ _ k1z
        simp only at hlb2
        clear hW2 hf2 bx2 k1w c1w f1 hlpw hlbw hbW BP HR2

        go_wp2_with fail
        refine rscope_r5 _ (by kernel_rfl) c3z c1z c0z HLT.out hkb k1z ?_
        intro W3 z44 z45 z46 z47 z48 z49 z50 z51 z52 z53 z54 z55 z56 hb3
        go_wp2_with fail
        go_ret
        rw [hx]
        exact ⟨rfl, ⟨k + 1, off, HR3.out.after hb3, rfl⟩, HF2.out.below hb3⟩
    · obtain ⟨a0, cap, rfl, _⟩ := hs.2.shape
      have c0 : w.cell? ⟨p, 0, none⟩ = some (.slice a0 ts.length cap) := c0
      rw [List.drop_eq_nil_of_le (by omega)] at hr
      rw [hr, (out_no (x := scopeP) (r := []) rfl).1, (out_no (x := scopeP) (r := []) rfl).2]
      rw [hr] at H
      clear hb hs hr
      go_enter Tryz.func42, Tryz.ntmps42
      go_wp2_with fail
      refine rscope_nil _ (by kernel_rfl) c3 c1 c0 (by omega) ?_
      intro W y3 y4 y5 y6 y7 y8 y9 y10 y11 y12 y13 y14 y15 y16 y17 y18 y19 y20 y21 y22 y23 y24 y25 y26 y27 y28 y29 y30 y31 y32 y33 hbW
      go_wp2_with fail
      refine (rfail_c _ p ts en _ (H.out.after hbW)).mono ?_
      rintro e w2 ⟨rfl, hp2, hf2⟩
      have HP2 := Lib.hid hp2
      have HF2 := Lib.hid ((Fx.of_below (S := fun b => b = p) hbW).trans hf2)
      clear hp2 hf2
      go_wp2_with fail
      go_ret
      exact ⟨rfl, HP2.out, HF2.out⟩
end Go.Proofs.YtganlldidjbpiaaGreatDoor
