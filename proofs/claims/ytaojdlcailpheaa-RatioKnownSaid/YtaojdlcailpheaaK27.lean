/- Walks of package ratio: Text of whatever fraction, the cut at a slash, Read. -/
import Derived.Test.YtaojdlcailpheaaK06
import Derived.Test.YtaojdlcailpheaaK26
import Derived.Test.YtaojdlcailpheaaK02
set_option linter.unusedVariables false
namespace Go.Proofs.Ytaojdlcailpheaa
open Go.RowKit

/-- What Text returns. -/
noncomputable def textX (x : F) : ByteArray := open Classical in if ValidF x then bs (textL x.neg (val x.num) (val x.den)) else ⟨#[]⟩
theorem textX_fr {s : Bool} {a b : Nat} (h : Ok s a b) : textX (fr s a b) = bs (textL s a b) := by
  unfold textX
  rw [if_pos (validF_fr.2 h)]
  simp only [fr, val_limbs]
theorem textX_no {x : F} (h : ¬ ValidF x) : textX x = ⟨#[]⟩ := by unfold textX; rw [if_neg h]
set_option maxRecDepth 100000 in
set_option maxHeartbeats 2000000 in
theorem Text_c (w : World) (v : Value) (x : F) (h : IsF w v x) : Calls Try.prog 21 #[v] w fun e w' => e = .returned (.string (textX x)) ∧ Below w.heap.size w w' := by
  by_cases hv : ValidF x
  · obtain ⟨s, a, b, rfl, hok⟩ : ∃ s a b, x = fr s a b ∧ Ok s a b := ⟨_, _, _, hv.eq, hv.2.2⟩
    refine (Text_fr w v s a b h hok).mono ?_
    rintro e w' ⟨rfl, hb⟩
    exact ⟨by rw [textX_fr hok, textL_bs], hb⟩
  · have HV := Lib.hid hv
    have HT := Lib.hid (textX_no hv)
    have HX := h
    obtain ⟨va, vb, rfl, h1, h2⟩ := h
    obtain ⟨p, cp, rfl, _, _⟩ := h1.shape
    obtain ⟨q, cq, rfl, _, _⟩ := h2.shape
    obtain ⟨W0, hW⟩ : ∃ W0, W0 = w.alloc (.cells #[.bool x.neg, .slice p x.num.length cp, .slice q x.den.length cq] 25) := ⟨_, rfl⟩
    have hb0 : Below w.heap.size w W0 := hW ▸ held_alloc (Below.refl _ w)
    have bx : Box W0 w.heap.size #[.bool x.neg, .slice p x.num.length cp, .slice q x.den.length cq] 25 := hW ▸ Box.new w _ _
    obtain ⟨c0, c1, c2⟩ := bx.cells3
    have hlx := bx.lt
    have H0 := Lib.hid (HX.after hb0)
    have HB0 := Lib.hid hb0
    clear HX hb0 h1 h2 bx hv
    obtain ⟨T, hT⟩ : ∃ T, textX x = T := ⟨_, rfl⟩
    rw [hT] at HT ⊢
    clear hT
    go_enter Try.func21, Try.ntmps21
    go_upto_region 1 with fail
    rw [← hW]
    clear hW
    go_wp2_with fail
    refine (Valid_c _ _ _ H0.out).mono ?_
    intro e w1 hr
    obtain ⟨rfl, hb1⟩ := hr.no HV.out
    have HB1 := Lib.hid (HB0.out.trans (hb1.mono HB0.out.size))
    clear hr hb1 c0 c1 c2 hlx
    go_wp2_with fail
    go_ret
    rw [HT.out]
    exact ⟨rfl, HB1.out⟩

/-- What a cut at a slash gives. -/
def cutV (l : List UInt8) : Array Value := if slash l < l.length then #[.string (bs (l.take (slash l))), .string (bs (l.drop (slash l + 1))), .bool true] else #[.string (bs l), .string ⟨#[]⟩, .bool false]
set_option maxRecDepth 100000 in
set_option maxHeartbeats 2000000 in
theorem cut0_c (w : World) (l : List UInt8) (hl : l.length ≤ 1000000000) : Calls Try.prog 95 #[.string (bs l), .string ⟨#[47]⟩] w fun e w' => e = .returned (.tuple (cutV l)) ∧ Below w.heap.size w w' := by
  have hix := slash_index l
  have hsz : (bs l).size = l.length := rfl
  obtain ⟨s, hs⟩ : ∃ s, bs l = s := ⟨_, rfl⟩
  have HS := Lib.hid hs
  rw [hs] at hsz
  have hi := Try.stringslite_Index_one s 47 w
  rw [show Lib.indexByte s.data.toList 47 = Lib.indexByte l 47 from by rw [← hs]; rfl] at hi
  have HI := Lib.hid hi
  obtain ⟨C, hC⟩ : ∃ C, cutV l = C := ⟨_, rfl⟩
  rw [hs, hC]
  clear hs hi
  have hle := slash_le l
  by_cases hlt : slash l < l.length
  · rw [if_pos hlt] at hix
    have HC : Hid (C = #[.string (bs (l.take (slash l))), .string (bs (l.drop (slash l + 1))), .bool true]) := by show _ = _; rw [← hC, cutV, if_pos hlt]
    obtain ⟨k, hk⟩ : ∃ k, slash l = k := ⟨_, rfl⟩
    rw [hk] at hix hlt hle HC
    clear hk hC
    have e1 : s.extract 0 k = bs (l.take k) := by rw [← HS.out]; exact extract_front _ _
    have e2 : s.extract (k + 1) l.length = bs (l.drop (k + 1)) := by rw [← HS.out]; exact extract_back' _ _ _ (Nat.le_refl _)
    go_enter Try.func95, Try.ntmps95
    go_wp2_with fail
    refine HI.out.mono ?_
    rw [hix]
    rintro e w' ⟨rfl, rfl⟩
    go_wp2_with fail
    go_quiet (fail)
    go_wp2
    refine bodyPost_ret (v := .tuple #[.string (bs (l.take k)), .string (bs (l.drop (k + 1))), .bool true]) (by simp [results, Try.results95, go_sem]) rfl ?_
    exact ⟨by rw [HC.out], below_drewN _ _ _⟩
  · rw [if_neg hlt] at hix
    have HC : Hid (C = #[.string (bs l), .string ⟨#[]⟩, .bool false]) := by show _ = _; rw [← hC, cutV, if_neg hlt]
    clear hC
    go_enter Try.func95, Try.ntmps95
    go_wp2_with fail
    refine HI.out.mono ?_
    rw [hix]
    rintro e w' ⟨rfl, rfl⟩
    go_wp2_with fail
    refine bodyPost_ret (v := .tuple #[.string s, .string ⟨#[]⟩, .bool false]) (by simp [results, Try.results95, go_sem]) rfl ?_
    exact ⟨by rw [HC.out, HS.out], Below.refl _ _⟩
set_option maxRecDepth 100000 in
set_option maxHeartbeats 2000000 in
theorem cut_c (w : World) (l : List UInt8) (hl : l.length ≤ 1000000000) : Calls Try.prog 54 #[.string (bs l), .string ⟨#[47]⟩] w fun e w' => e = .returned (.tuple (cutV l)) ∧ Below w.heap.size w w' := by
  by_cases hlt : slash l < l.length
  · obtain ⟨x, y, z, hC⟩ : ∃ x y z, cutV l = #[.string x, .string y, .bool z] := ⟨_, _, _, by rw [cutV, if_pos hlt]⟩
    have hc := cut0_c w l hl
    rw [hC] at hc ⊢
    have HC := Lib.hid hc
    clear hc hC
    go_enter Try.func54, Try.ntmps54
    go_wp2_with fail
    refine HC.out.mono ?_
    rintro e w' ⟨rfl, hb⟩
    have HB := Lib.hid hb
    clear hb
    go_wp2_with fail
    refine bodyPost_ret (v := .tuple #[.string x, .string y, .bool z]) (by simp [results, Try.results54, go_sem]) rfl ?_
    exact ⟨rfl, HB.out⟩
  · obtain ⟨x, y, z, hC⟩ : ∃ x y z, cutV l = #[.string x, .string y, .bool z] := ⟨_, _, _, by rw [cutV, if_neg hlt]⟩
    have hc := cut0_c w l hl
    rw [hC] at hc ⊢
    have HC := Lib.hid hc
    clear hc hC
    go_enter Try.func54, Try.ntmps54
    go_wp2_with fail
    refine HC.out.mono ?_
    rintro e w' ⟨rfl, hb⟩
    have HB := Lib.hid hb
    clear hb
    go_wp2_with fail
    refine bodyPost_ret (v := .tuple #[.string x, .string y, .bool z]) (by simp [results, Try.results54, go_sem]) rfl ?_
    exact ⟨rfl, HB.out⟩

set_option maxRecDepth 100000 in
set_option maxHeartbeats 4000000 in
theorem Read_c (w : World) (s : List UInt8) (hl : s.length ≤ 1000000000) : Calls Try.prog 16 #[.string (bs s)] w (RetF w (readF s)) := by
  obtain ⟨W0, hW⟩ : ∃ W0, W0 = w.alloc (.cells #[.bool false, .slice none 0 0, .slice none 0 0] 25) := ⟨_, rfl⟩
  have hb0 : Below w.heap.size w W0 := hW ▸ held_alloc (Below.refl _ w)
  have br : Box W0 w.heap.size #[.bool false, .slice none 0 0, .slice none 0 0] 25 := hW ▸ Box.new w _ _
  have BR := Lib.hid br
  have HB0 := Lib.hid hb0
  have BRl := Lib.hid br.lt
  clear hb0 br
  have hpre := fun W => Try.strings_CutPrefix (bs s) ⟨#[45]⟩ W
  have hpre2 : Hid (∀ W, Calls Try.prog 53 #[.string (bs s), .string ⟨#[45]⟩] W fun e w' => e = .returned (.tuple #[.string (bs (rest1 s)), .bool (minus1 s)]) ∧ w' = W) := hpre
  clear hpre
  have hfound := fun h => read_found (s := s) h
  have HFD := Lib.hid hfound
  clear hfound
  obtain ⟨R, hR⟩ : ∃ R, readF s = R := ⟨_, rfl⟩
  have HR := Lib.hid hR
  rw [hR]
  clear hR
  have hrl : (rest1 s).length ≤ 1000000000 := by
    unfold rest1 Lib.trimPrefix
    split
    · rw [List.length_drop]; omega
    · exact hl
  have hcut := fun W => cut_c W (rest1 s) hrl
  have HCUT := Lib.hid hcut
  clear hcut
  obtain ⟨r, hr⟩ : ∃ r, rest1 s = r := ⟨_, rfl⟩
  obtain ⟨S, hS⟩ : ∃ S, bs s = S := ⟨_, rfl⟩
  have HS := Lib.hid hS
  rw [hS] at hpre2
  rw [hS]
  rw [hr] at hpre2 HCUT hrl HFD
  obtain ⟨ng, hng⟩ : ∃ ng, minus1 s = ng := ⟨_, rfl⟩
  have HNG := Lib.hid hng
  rw [hng] at hpre2
  have hN : candN s = (digN 0 (r.take (slash r))).getD 0 := by unfold candN; rw [hr]
  have hD : candD s = (digN 0 (r.drop (slash r + 1))).getD 0 := by unfold candD; rw [hr]
  have HN := Lib.hid hN
  have HD := Lib.hid hD
  have hr0f : Hid (s = [] → r.length = 0) := fun e => by rw [← hr, e]; rfl
  clear hN hD hr hS hng
  by_cases hf : slash r < r.length
  · have HCV : Hid (cutV r = #[.string (bs (r.take (slash r))), .string (bs (r.drop (slash r + 1))), .bool true]) := by show _ = _; rw [cutV, if_pos hf]
    rw [HCV.out] at HCUT
    have hl1 : (r.take (slash r)).length ≤ 1000000000 := by rw [List.length_take]; omega
    have hl2 : (r.drop (slash r + 1)).length ≤ 1000000000 := by rw [List.length_drop]; omega
    obtain ⟨l1, h1⟩ : ∃ l1, r.take (slash r) = l1 := ⟨_, rfl⟩
    obtain ⟨l2, h2⟩ : ∃ l2, r.drop (slash r + 1) = l2 := ⟨_, rfl⟩
    rw [h1] at HCUT hl1 HN HFD
    rw [h2] at HCUT hl2 HD HFD
    clear h1 h2 HCV
    obtain ⟨k1, hk1⟩ : ∃ k1, decide (digN 0 l1 ≠ none ∧ l1 ≠ []) = k1 := ⟨_, rfl⟩
    obtain ⟨k2, hk2⟩ : ∃ k2, decide (digN 0 l2 ≠ none ∧ l2 ≠ []) = k2 := ⟨_, rfl⟩
    have D1 := Lib.hid (fun W => digits_c l1 W (by omega))
    have D2 := Lib.hid (fun W => digits_c l2 W (by omega))
    unfold RetDg at D1 D2
    rw [hk1] at D1
    rw [hk2] at D2
    have HK1 := Lib.hid hk1
    have HK2 := Lib.hid hk2
    obtain ⟨A, hA⟩ : ∃ A, (digN 0 l1).getD 0 = A := ⟨_, rfl⟩
    obtain ⟨B, hB⟩ : ∃ B, (digN 0 l2).getD 0 = B := ⟨_, rfl⟩
    rw [hA] at D1 HN
    rw [hB] at D2 HD
    have HCAND : Hid (candF s = fr ng A B) := by show _ = _; unfold candF; rw [HNG.out, HN.out, HD.out]
    have HTL : Hid (textL (minus1 s) (candN s) (candD s) = textL ng A B) := by show _ = _; rw [HNG.out, HN.out, HD.out]
    have HBAD : Hid (¬ (ValidF (fr ng A B) ∧ textL ng A B = s) → R = (F0, 4)) := fun h => by rw [← HR.out]; exact readF_bad (by rw [HCAND.out, HTL.out]; exact h)
    have HGOOD : Hid (Ok ng A B → textL ng A B = s → R = (fr ng A B, 0) ∧ k1 = true ∧ k2 = true) := fun h1 h2 => by
      have h3 := readF_ok (s := s) (by rw [HNG.out, HN.out, HD.out]; exact h1) (by rw [HTL.out]; exact h2)
      rw [HR.out, HCAND.out] at h3
      obtain ⟨_, g1, g2, g3, g4⟩ := HFD.out (by rw [HCAND.out, HTL.out]; exact ⟨validF_fr.2 h1, h2⟩)
      exact ⟨h3, by rw [← HK1.out]; exact decide_eq_true ⟨g1, g2⟩, by rw [← HK2.out]; exact decide_eq_true ⟨g3, g4⟩⟩
    clear hk1 hk2 hA hB HFD HR HN HD HNG HK1 HK2 HCAND HTL
    go_enter Try.func16, Try.ntmps16
    go_upto_region 1 with fail
    rw [← hW]
    clear hW
    go_wp2_with fail
    refine (hpre2.out W0).mono ?_
    rintro e w1 ⟨rfl, rfl⟩
    go_wp2_with fail
    refine (HCUT.out _).mono ?_
    rintro e w2 ⟨rfl, hb⟩
    replace BR := Lib.hid (BR.out.after hb)
    replace HB0 := Lib.hid (HB0.out.trans (hb.mono HB0.out.size))
    clear hb
    go_wp2_with fail
    refine (D1.out _).mono ?_
    rintro e w3 ⟨v1, rfl, hv1, hb⟩
    replace BR := Lib.hid (BR.out.after hb)
    replace HB0 := Lib.hid (HB0.out.trans (hb.mono HB0.out.size))
    obtain ⟨p1, c1, rfl, _, _⟩ := hv1.shape
    have V1 := Lib.hid hv1
    clear hb hv1
    go_wp2_with fail
    refine (D2.out _).mono ?_
    rintro e w4 ⟨v2, rfl, hv2, hb⟩
    replace BR := Lib.hid (BR.out.after hb)
    replace HB0 := Lib.hid (HB0.out.trans (hb.mono HB0.out.size))
    obtain ⟨p2, c2, rfl, _, _⟩ := hv2.shape
    replace V1 := Lib.hid (V1.out.after hb)
    have V2 := Lib.hid hv2
    clear hb hv2
    have hwr4 := BR.out.lt
    go_upto_region 6 with fail
    obtain ⟨W5, hW5⟩ : ∃ W5, W5 = w4.alloc (.cells #[.bool ng, .slice p1 (limbs A).length c1, .slice p2 (limbs B).length c2] 25) := ⟨_, rfl⟩
    have hb : Below w4.heap.size w4 W5 := hW5 ▸ held_alloc (Below.refl _ w4)
    have bx : Box W5 w4.heap.size #[.bool ng, .slice p1 (limbs A).length c1, .slice p2 (limbs B).length c2] 25 := hW5 ▸ Box.new w4 _ _
    replace BR := Lib.hid (BR.out.after hb)
    replace HB0 := Lib.hid (HB0.out.trans (hb.mono HB0.out.size))
    replace V1 := Lib.hid (V1.out.after hb)
    replace V2 := Lib.hid (V2.out.after hb)
    have hwr : w.heap.size < w4.heap.size := hwr4
    rw [← hW5]
    clear hW5 hb
    obtain ⟨X, hX⟩ : ∃ X, w4.heap.size = X := ⟨_, rfl⟩
    rw [hX] at bx hwr ⊢
    clear hX
    have BX := Lib.hid bx
    obtain ⟨x0, x1, x2⟩ := bx.cells3
    have hlx := bx.lt
    clear bx
    cases k1 with
    | false =>
      have HRB : Hid (R = (F0, 4)) := HBAD.out (fun h => by have := (HGOOD.out (validF_fr.1 h.1) h.2).2.1; cases this)
      clear HBAD HGOOD
      obtain ⟨r0, r1, r2⟩ := BR.out.cells3
      have f0 := BR.out.frozen 0
      have f1 := BR.out.frozen 1
      have f2 := BR.out.frozen 2
      have hlr := BR.out.lt
      go_wp2_with fail
      obtain ⟨y0, y1, y2⟩ := (end_box BR.out (y0 := .bool false) (y1 := .slice none 0 0) (y2 := .slice none 0 0)).cells3
      refine bodyPost_ret (v := .tuple #[.agg #[.bool false, .slice none 0 0, .slice none 0 0], .int .i64 4]) (by simp [results, Try.results16, go_sem, y0, y1, y2]) rfl ?_
      rw [HRB.out]
      exact ⟨_, rfl, IsF.zero _, ((HB0.out.setCell (Nat.le_refl _) _).setCell (Nat.le_refl _) _).setCell (Nat.le_refl _) _⟩
    | true =>
      cases k2 with
      | false =>
        have HRB : Hid (R = (F0, 4)) := HBAD.out (fun h => by have := (HGOOD.out (validF_fr.1 h.1) h.2).2.2; cases this)
        clear HBAD HGOOD
        obtain ⟨r0, r1, r2⟩ := BR.out.cells3
        have f0 := BR.out.frozen 0
        have f1 := BR.out.frozen 1
        have f2 := BR.out.frozen 2
        have hlr := BR.out.lt
        go_wp2_with fail
        obtain ⟨y0, y1, y2⟩ := (end_box BR.out (y0 := .bool false) (y1 := .slice none 0 0) (y2 := .slice none 0 0)).cells3
        refine bodyPost_ret (v := .tuple #[.agg #[.bool false, .slice none 0 0, .slice none 0 0], .int .i64 4]) (by simp [results, Try.results16, go_sem, y0, y1, y2]) rfl ?_
        rw [HRB.out]
        exact ⟨_, rfl, IsF.zero _, ((HB0.out.setCell (Nat.le_refl _) _).setCell (Nat.le_refl _) _).setCell (Nat.le_refl _) _⟩
      | true =>
        have HF : Hid (IsF W5 (.agg #[.bool ng, .slice p1 (limbs A).length c1, .slice p2 (limbs B).length c2]) (fr ng A B)) := ⟨_, _, rfl, V1.out, V2.out⟩
        go_wp2_with fail
        refine (Text_c W5 _ (fr ng A B) HF.out).mono ?_
        rintro e w6 ⟨rfl, hb⟩
        replace BR := Lib.hid (BR.out.after hb)
        replace HB0 := Lib.hid (HB0.out.trans (hb.mono HB0.out.size))
        replace BX := Lib.hid (BX.out.after hb)
        replace V1 := Lib.hid (V1.out.after hb)
        replace V2 := Lib.hid (V2.out.after hb)
        clear hb x0 x1 x2 hlx HF
        by_cases hgd : Ok ng A B ∧ textL ng A B = s
        · obtain ⟨g1, g2⟩ := hgd
          obtain ⟨HRG', _, _⟩ := HGOOD.out g1 g2
          have HRG := Lib.hid HRG'
          have hT : textX (fr ng A B) = S := by rw [textX_fr g1, g2, HS.out]
          rw [hT]
          clear hT g1 g2 HRG' HBAD HGOOD
          obtain ⟨x0, x1, x2⟩ := BX.out.cells3
          have hlx := BX.out.lt
          obtain ⟨r0, r1, r2⟩ := BR.out.cells3
          have f0 := BR.out.frozen 0
          have f1 := BR.out.frozen 1
          have f2 := BR.out.frozen 2
          have hlr := BR.out.lt
          go_wp2_with fail
          obtain ⟨y0, y1, y2⟩ := (end_box BR.out (y0 := .bool ng) (y1 := .slice p1 (limbs A).length c1) (y2 := .slice p2 (limbs B).length c2)).cells3
          refine bodyPost_ret (v := .tuple #[.agg #[.bool ng, .slice p1 (limbs A).length c1, .slice p2 (limbs B).length c2], .int .i64 0]) (by simp [results, Try.results16, go_sem, y0, y1, y2]) rfl ?_
          rw [HRG.out]
          exact ⟨_, rfl, IsF.result (neg := ng) BR.out (fun _ h => by cases h) (fun _ h => by cases h) V1.out V2.out, ((HB0.out.setCell (Nat.le_refl _) _).setCell (Nat.le_refl _) _).setCell (Nat.le_refl _) _⟩
        · have HRB : Hid (R = (F0, 4)) := HBAD.out (fun h => hgd ⟨validF_fr.1 h.1, h.2⟩)
          have hne : textX (fr ng A B) ≠ S := fun e => by
            by_cases hv : ValidF (fr ng A B)
            · rw [textX_fr (validF_fr.1 hv), ← HS.out] at e
              exact hgd ⟨validF_fr.1 hv, bs_inj e⟩
            · rw [textX_no hv, ← HS.out] at e
              have e2 : s = [] := by have := bs_inj (a := []) (b := s) e; exact this.symm
              have hr0 : r.length = 0 := hr0f.out e2
              omega
          obtain ⟨T, hT⟩ : ∃ T, textX (fr ng A B) = T := ⟨_, rfl⟩
          rw [hT] at hne ⊢
          have hnl : (T.toList == S.toList) = false := ba_ne hne
          clear hT HBAD HGOOD hgd
          obtain ⟨x0, x1, x2⟩ := BX.out.cells3
          have hlx := BX.out.lt
          obtain ⟨r0, r1, r2⟩ := BR.out.cells3
          have f0 := BR.out.frozen 0
          have f1 := BR.out.frozen 1
          have f2 := BR.out.frozen 2
          have hlr := BR.out.lt
          go_wp2_with fail
          obtain ⟨y0, y1, y2⟩ := (end_box BR.out (y0 := .bool false) (y1 := .slice none 0 0) (y2 := .slice none 0 0)).cells3
          refine bodyPost_ret (v := .tuple #[.agg #[.bool false, .slice none 0 0, .slice none 0 0], .int .i64 4]) (by simp [results, Try.results16, go_sem, y0, y1, y2]) rfl ?_
          rw [HRB.out]
          exact ⟨_, rfl, IsF.zero _, ((HB0.out.setCell (Nat.le_refl _) _).setCell (Nat.le_refl _) _).setCell (Nat.le_refl _) _⟩
  · have HRB : Hid (R = (F0, 4)) := by show _ = _; rw [← HR.out]; exact readF_bad (fun h => hf (HFD.out h).1)
    have HCV : Hid (cutV r = #[.string (bs r), .string ⟨#[]⟩, .bool false]) := by show _ = _; rw [cutV, if_neg hf]
    rw [HCV.out] at HCUT
    have D1 := Lib.hid (fun W => digits_c r W (by omega))
    have D2 : Hid (∀ W, Calls Try.prog 55 #[.string ⟨#[]⟩] W (RetDg W [])) := fun W => digits_c [] W (by simp)
    clear HFD HR HN HD HCV hf
    go_enter Try.func16, Try.ntmps16
    go_upto_region 1 with fail
    rw [← hW]
    clear hW
    go_wp2_with fail
    refine (hpre2.out W0).mono ?_
    rintro e w1 ⟨rfl, rfl⟩
    go_wp2_with fail
    refine (HCUT.out _).mono ?_
    rintro e w2 ⟨rfl, hb⟩
    replace BR := Lib.hid (BR.out.after hb)
    replace HB0 := Lib.hid (HB0.out.trans (hb.mono HB0.out.size))
    clear hb
    go_wp2_with fail
    refine (D1.out _).mono ?_
    rintro e w3 ⟨v1, rfl, hv1, hb⟩
    replace BR := Lib.hid (BR.out.after hb)
    replace HB0 := Lib.hid (HB0.out.trans (hb.mono HB0.out.size))
    obtain ⟨p1, c1, rfl, _, _⟩ := hv1.shape
    clear hb hv1
    go_wp2_with fail
    refine (D2.out _).mono ?_
    rintro e w4 ⟨v2, rfl, hv2, hb⟩
    replace BR := Lib.hid (BR.out.after hb)
    replace HB0 := Lib.hid (HB0.out.trans (hb.mono HB0.out.size))
    obtain ⟨p2, c2, rfl, _, _⟩ := hv2.shape
    clear hb hv2
    generalize decide (digN 0 r ≠ none ∧ r ≠ []) = k1
    generalize decide (digN 0 [] ≠ none ∧ ([] : List UInt8) ≠ []) = k2
    generalize (limbs ((digN 0 r).getD 0)).length = n1
    generalize (limbs ((digN 0 []).getD 0)).length = n2
    go_upto_region 6 with fail
    obtain ⟨W5, hW5⟩ : ∃ W5, W5 = w4.alloc (.cells #[.bool ng, .slice p1 n1 c1, .slice p2 n2 c2] 25) := ⟨_, rfl⟩
    have hb : Below w4.heap.size w4 W5 := hW5 ▸ held_alloc (Below.refl _ w4)
    replace BR := Lib.hid (BR.out.after hb)
    replace HB0 := Lib.hid (HB0.out.trans (hb.mono HB0.out.size))
    rw [← hW5]
    clear hW5 hb
    obtain ⟨r0, r1, r2⟩ := BR.out.cells3
    have f0 := BR.out.frozen 0
    have f1 := BR.out.frozen 1
    have f2 := BR.out.frozen 2
    have hlr := BR.out.lt
    go_wp2_with fail
    obtain ⟨y0, y1, y2⟩ := (end_box BR.out (y0 := .bool false) (y1 := .slice none 0 0) (y2 := .slice none 0 0)).cells3
    refine bodyPost_ret (v := .tuple #[.agg #[.bool false, .slice none 0 0, .slice none 0 0], .int .i64 4]) (by simp [results, Try.results16, go_sem, y0, y1, y2]) rfl ?_
    rw [HRB.out]
    exact ⟨_, rfl, IsF.zero _, ((HB0.out.setCell (Nat.le_refl _) _).setCell (Nat.le_refl _) _).setCell (Nat.le_refl _) _⟩
end Go.Proofs.Ytaojdlcailpheaa
