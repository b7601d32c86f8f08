/- Walks of the reference: Read. -/
import Derived.Test.YtaojdlcailpheaaQVG
set_option linter.unusedVariables false
namespace Go.Proofs.Ytaojdlcailpheaa
open Go.RowKit

theorem front (s : List UInt8) : (s = [] ∧ minus1 s = false ∧ rest1 s = s) ∨ (∃ h : 0 < s.length, s[0].toNat = 45 ∧ minus1 s = true ∧ rest1 s = s.drop 1) ∨ (∃ h : 0 < s.length, s[0].toNat ≠ 45 ∧ minus1 s = false ∧ rest1 s = s) := by
  match s with
  | [] => left; exact ⟨rfl, rfl, rfl⟩
  | c :: l =>
    by_cases hc : c = 45
    · subst hc
      right; left
      exact ⟨by simp, rfl, minus1_cons 45 l, rest1_yes l⟩
    · right; right
      have hm : minus1 (c :: l) = false := by rw [minus1_cons]; exact beq_eq_false_iff_ne.2 hc
      exact ⟨by simp, fun e => hc (UInt8.toNat_inj.1 (by simpa using e)), hm, rest1_no hm⟩
theorem slash_bef : ∀ (l : List UInt8) (k : Nat) (h : k < l.length), k < slash l → l[k].toNat ≠ 47
  | [], k, h, _ => by simp at h
  | c :: l, k, h, hk => by
    unfold slash at hk
    split at hk
    · omega
    · rename_i hc
      cases k with
      | zero => exact fun e => hc (UInt8.toNat_inj.1 (by simpa using e))
      | succ k => exact slash_bef l k (by simpa using h) (by omega)
theorem slash_at : ∀ (l : List UInt8) (h : slash l < l.length), (l[slash l]'h).toNat = 47
  | [], h => by simp at h
  | c :: l, h => by
    by_cases hc : c = 47
    · subst hc
      have e : slash (47 :: l) = 0 := by unfold slash; rw [if_pos rfl]
      simp only [e]; rfl
    · have e : slash (c :: l) = slash l + 1 := by rw [slash, if_neg hc]
      have h2 : slash l < l.length := by rw [e] at h; simpa using h
      simp only [e]
      exact slash_at l h2

set_option maxRecDepth 100000 in
set_option maxHeartbeats 4000000 in
theorem rRead_c (w : World) (s : List UInt8) (hl : s.length ≤ 1000000000) : Calls Try.prog 17 #[.string (bs s)] w (RetF w (readF s)) := by
  obtain ⟨W0, hW⟩ : ∃ W0, W0 = w.alloc (.cells #[.bool false, .slice none 0 0, .slice none 0 0] 25) := ⟨_, rfl⟩
  have hb0 : Below w.heap.size w W0 := hW ▸ held_alloc (Below.refl _ w)
  have br : Box W0 w.heap.size #[.bool false, .slice none 0 0, .slice none 0 0] 25 := hW ▸ Box.new w _ _
  have BR := Lib.hid br
  have HB0 := Lib.hid hb0
  have BRl := Lib.hid br.lt
  clear hb0 br
  have hfound := fun h => read_found (s := s) h
  have HFD := Lib.hid hfound
  clear hfound
  obtain ⟨R, hR⟩ : ∃ R, readF s = R := ⟨_, rfl⟩
  have HR := Lib.hid hR
  rw [hR]
  clear hR
  have hrl : (rest1 s).length ≤ 1000000000 := by
    unfold rest1 Lib.trimPrefix
    split
    · rw [List.length_drop]; omega
    · exact hl
  have hfr := front s
  obtain ⟨r, hr⟩ : ∃ r, rest1 s = r := ⟨_, rfl⟩
  obtain ⟨ng, hng⟩ : ∃ ng, minus1 s = ng := ⟨_, rfl⟩
  have HNG := Lib.hid hng
  have hN : candN s = (digN 0 (r.take (slash r))).getD 0 := by unfold candN; rw [hr]
  have hD : candD s = (digN 0 (r.drop (slash r + 1))).getD 0 := by unfold candD; rw [hr]
  have HN := Lib.hid hN
  have HD := Lib.hid hD
  have hr0f : Hid (s = [] → r.length = 0) := fun e => by rw [← hr, e]; rfl
  rw [hr] at HFD hrl hfr
  rw [hng] at hfr
  obtain ⟨S, hS⟩ : ∃ S, bs s = S := ⟨_, rfl⟩
  obtain ⟨T, hT⟩ : ∃ T, bs r = T := ⟨_, rfl⟩
  have HS := Lib.hid hS
  have hss : S.size = s.length := by rw [← hS]; rfl
  have hts : T.size = r.length := by rw [← hT]; rfl
  have HFR : Hid ((s.length = 0 ∧ ng = false ∧ T = S) ∨ (∃ h : 0 < S.size, (S[0]'h).toNat = 45 ∧ ng = true ∧ S.extract 1 s.length = T) ∨ (∃ h : 0 < S.size, (S[0]'h).toNat ≠ 45 ∧ ng = false ∧ T = S)) := by
    rcases hfr with ⟨h1, h2, h3⟩ | ⟨h1, h2, h3, h4⟩ | ⟨h1, h2, h3, h4⟩
    · left; exact ⟨by rw [h1]; rfl, h2, by rw [← hT, ← hS, h3]⟩
    · right; left
      subst hS
      exact ⟨h1, h2, h3, by rw [← hT, h4]; exact extract_back' _ _ _ (Nat.le_refl _)⟩
    · right; right
      subst hS
      exact ⟨h1, h2, h3, by rw [← hT, h4]⟩
  have HB4 : Hid (∀ (k : Nat) (h : k < T.size), k < slash r → (T[k]'h).toNat ≠ 47) := by
    subst hT
    exact fun k h hk => slash_bef r k h hk
  have HAT : Hid (slash r < r.length → ∀ h : slash r < T.size, (T[slash r]'h).toNat = 47) := by
    subst hT
    exact fun h1 h2 => slash_at r h1
  have hkl := slash_le r
  have HE1 : Hid (T.extract 0 (slash r) = bs (r.take (slash r))) := by show _ = _; rw [← hT]; exact extract_front _ _
  have HE2 : Hid (T.extract (slash r + 1) r.length = bs (r.drop (slash r + 1))) := by show _ = _; rw [← hT]; exact extract_back' _ _ _ (Nat.le_refl _)
  rw [hS]
  clear hN hD hr hng hfr hS hT
  obtain ⟨K, hK⟩ : ∃ K, slash r = K := ⟨_, rfl⟩
  rw [hK] at HFD HN HD HB4 HAT hkl HE1 HE2
  clear hK
  by_cases hf : K < r.length
  · replace HAT := Lib.hid (HAT.out hf)
    have hl1 : (r.take K).length ≤ 1000000000 := by rw [List.length_take]; omega
    have hl2 : (r.drop (K + 1)).length ≤ 1000000000 := by rw [List.length_drop]; omega
    obtain ⟨l1, h1⟩ : ∃ l1, r.take K = l1 := ⟨_, rfl⟩
    obtain ⟨l2, h2⟩ : ∃ l2, r.drop (K + 1) = l2 := ⟨_, rfl⟩
    rw [h1] at hl1 HN HFD HE1
    rw [h2] at hl2 HD HFD HE2
    clear h1 h2
    obtain ⟨k1, hk1⟩ : ∃ k1, decide (digN 0 l1 ≠ none) = k1 := ⟨_, rfl⟩
    obtain ⟨k2, hk2⟩ : ∃ k2, decide (digN 0 l2 ≠ none) = k2 := ⟨_, rfl⟩
    have D1 := Lib.hid (fun W => rdigits_c l1 W (by omega))
    have D2 := Lib.hid (fun W => rdigits_c l2 W (by omega))
    unfold RetDr at D1 D2
    rw [hk1] at D1
    rw [hk2] at D2
    have HK1 := Lib.hid hk1
    have HK2 := Lib.hid hk2
    obtain ⟨A, hA⟩ : ∃ A, (digN 0 l1).getD 0 = A := ⟨_, rfl⟩
    obtain ⟨B, hB⟩ : ∃ B, (digN 0 l2).getD 0 = B := ⟨_, rfl⟩
    rw [hA] at D1 HN
    rw [hB] at D2 HD
    have HCAND : Hid (candF s = fr ng A B) := by show _ = _; unfold candF; rw [HNG.out, HN.out, HD.out]
    have HTL : Hid (textL (minus1 s) (candN s) (candD s) = textL ng A B) := by show _ = _; rw [HNG.out, HN.out, HD.out]
    have HBAD : Hid (¬ (ValidF (fr ng A B) ∧ textL ng A B = s) → R = (F0, 4)) := fun h => by rw [← HR.out]; exact readF_bad (by rw [HCAND.out, HTL.out]; exact h)
    have HGOOD : Hid (Ok ng A B → textL ng A B = s → R = (fr ng A B, 0) ∧ k1 = true ∧ k2 = true) := fun h1 h2 => by
      have h3 := readF_ok (s := s) (by rw [HNG.out, HN.out, HD.out]; exact h1) (by rw [HTL.out]; exact h2)
      rw [HR.out, HCAND.out] at h3
      obtain ⟨_, g1, g2, g3, g4⟩ := HFD.out (by rw [HCAND.out, HTL.out]; exact ⟨validF_fr.2 h1, h2⟩)
      exact ⟨h3, by rw [← HK1.out]; exact decide_eq_true g1, by rw [← HK2.out]; exact decide_eq_true g3⟩
    obtain ⟨L1, hL1⟩ : ∃ L1, bs l1 = L1 := ⟨_, rfl⟩
    obtain ⟨L2, hL2⟩ : ∃ L2, bs l2 = L2 := ⟨_, rfl⟩
    rw [hL1] at D1 HE1
    rw [hL2] at D2 HE2
    clear hk1 hk2 hA hB HFD HR HN HD HNG HK1 HK2 HCAND HTL hL1 hL2
    rcases HFR.out with ⟨h0, rfl, rfl⟩ | ⟨h0, h45, rfl, hex⟩ | ⟨h0, h45, rfl, rfl⟩
    · omega
    · clear HFR
      have q0 : ((45 : Nat) : Int) = 45 := rfl
      have hlen1 : 1 ≤ s.length := by omega
      go_enter Try.func17, Try.ntmps17
      go_upto_region 1 with fail
      rw [← hW]
      clear hW
      go_upto_region 6 with fail
      clear hex h45 h0
      go_loopg [6] r.length (fun g t wx => ∃ k : Nat, k ≤ K ∧ g = r.length - k ∧ t = .int .i64 (k : Int) ∧ wx = W0)
      case atStart => exact ⟨0, Nat.zero_le _, rfl, rfl, rfl⟩
      case round =>
        obtain ⟨k, hk, rfl, rfl, rfl⟩ := hrel
        by_cases hlt : k < K
        · have hks : k < T.size := by omega
          have hkr : k < r.length := by omega
          have hnq := HB4.out k hks hlt
          obtain ⟨q, hq⟩ : ∃ q, (T[k]'hks).toNat = q := ⟨_, rfl⟩
          rw [hq] at hnq
          have hb1 : ((q : Int) != 47) = true := by simp; omega
          have hb2 : (q != 47) = true := by simp [hnq]
          have hb3 : ((q : Int) == 47) = false := beq_eq_false_iff_ne.2 (by omega)
          have hb4 : (q == 47) = false := beq_eq_false_iff_ne.2 hnq
          clear hnq
          go_wp2_with fail
          go_roundg (r.length - (k + 1))
          case measure => omega
          case rel => exact ⟨k + 1, by omega, rfl, by go_num, rfl⟩
        · obtain rfl : k = K := by omega
          clear hlt HB4
          have hks : k < T.size := by omega
          have hq := HAT.out hks
          have e1 := HE1.out
          have e2 := HE2.out
          clear HAT HE1 HE2
          go_upto_region 10 with fail
          clear hq
          go_wp2_with fail
          refine (D1.out _).mono ?_
          rintro e w3 ⟨v1, rfl, hv1, hb⟩
          replace BR := Lib.hid (BR.out.after hb)
          replace HB0 := Lib.hid (HB0.out.trans (hb.mono HB0.out.size))
          obtain ⟨p1, c1, rfl, _, _⟩ := hv1.shape
          have V1 := Lib.hid hv1
          clear hb hv1
          go_wp2_with fail
          refine (D2.out _).mono ?_
          rintro e w4 ⟨v2, rfl, hv2, hb⟩
          replace BR := Lib.hid (BR.out.after hb)
          replace HB0 := Lib.hid (HB0.out.trans (hb.mono HB0.out.size))
          obtain ⟨p2, c2, rfl, _, _⟩ := hv2.shape
          replace V1 := Lib.hid (V1.out.after hb)
          have V2 := Lib.hid hv2
          clear hb hv2 e1 e2 D1 D2
          have hwr4 := BR.out.lt
          go_upto_region 13 with fail
          obtain ⟨W5, hW5⟩ : ∃ W5, W5 = w4.alloc (.cells #[.bool true, .slice p1 (limbs A).length c1, .slice p2 (limbs B).length c2] 25) := ⟨_, rfl⟩
          have hb : Below w4.heap.size w4 W5 := hW5 ▸ held_alloc (Below.refl _ w4)
          have bx : Box W5 w4.heap.size #[.bool true, .slice p1 (limbs A).length c1, .slice p2 (limbs B).length c2] 25 := hW5 ▸ Box.new w4 _ _
          replace BR := Lib.hid (BR.out.after hb)
          replace HB0 := Lib.hid (HB0.out.trans (hb.mono HB0.out.size))
          replace V1 := Lib.hid (V1.out.after hb)
          replace V2 := Lib.hid (V2.out.after hb)
          have hwr : w.heap.size < w4.heap.size := hwr4
          rw [← hW5]
          clear hW5 hb
          obtain ⟨X, hX⟩ : ∃ X, w4.heap.size = X := ⟨_, rfl⟩
          rw [hX] at bx hwr ⊢
          clear hX
          have BX := Lib.hid bx
          obtain ⟨x0, x1, x2⟩ := bx.cells3
          have hlx := bx.lt
          clear bx
          cases k1 with
          | false =>
            have HRB : Hid (R = (F0, 4)) := HBAD.out (fun h => by have := (HGOOD.out (validF_fr.1 h.1) h.2).2.1; cases this)
            clear HBAD HGOOD
            obtain ⟨r0, r1, r2⟩ := BR.out.cells3
            have f0 := BR.out.frozen 0
            have f1 := BR.out.frozen 1
            have f2 := BR.out.frozen 2
            have hlr := BR.out.lt
            go_wp2_with fail
            obtain ⟨y0, y1, y2⟩ := (end_box BR.out (y0 := .bool false) (y1 := .slice none 0 0) (y2 := .slice none 0 0)).cells3
            refine bodyPost_ret (v := .tuple #[.agg #[.bool false, .slice none 0 0, .slice none 0 0], .int .i64 4]) (by simp [results, Try.results17, go_sem, y0, y1, y2]) rfl ?_
            rw [HRB.out]
            exact ⟨_, rfl, IsF.zero _, ((HB0.out.setCell (Nat.le_refl _) _).setCell (Nat.le_refl _) _).setCell (Nat.le_refl _) _⟩
          | true =>
            cases k2 with
            | false =>
              have HRB : Hid (R = (F0, 4)) := HBAD.out (fun h => by have := (HGOOD.out (validF_fr.1 h.1) h.2).2.2; cases this)
              clear HBAD HGOOD
              obtain ⟨r0, r1, r2⟩ := BR.out.cells3
              have f0 := BR.out.frozen 0
              have f1 := BR.out.frozen 1
              have f2 := BR.out.frozen 2
              have hlr := BR.out.lt
              go_wp2_with fail
              obtain ⟨y0, y1, y2⟩ := (end_box BR.out (y0 := .bool false) (y1 := .slice none 0 0) (y2 := .slice none 0 0)).cells3
              refine bodyPost_ret (v := .tuple #[.agg #[.bool false, .slice none 0 0, .slice none 0 0], .int .i64 4]) (by simp [results, Try.results17, go_sem, y0, y1, y2]) rfl ?_
              rw [HRB.out]
              exact ⟨_, rfl, IsF.zero _, ((HB0.out.setCell (Nat.le_refl _) _).setCell (Nat.le_refl _) _).setCell (Nat.le_refl _) _⟩
            | true =>
              have HF : Hid (IsF W5 (.agg #[.bool true, .slice p1 (limbs A).length c1, .slice p2 (limbs B).length c2]) (fr true A B)) := ⟨_, _, rfl, V1.out, V2.out⟩
              go_wp2_with fail
              refine (rText_c W5 _ (fr true A B) HF.out).mono ?_
              rintro e w6 ⟨rfl, hb⟩
              replace BR := Lib.hid (BR.out.after hb)
              replace HB0 := Lib.hid (HB0.out.trans (hb.mono HB0.out.size))
              replace BX := Lib.hid (BX.out.after hb)
              replace V1 := Lib.hid (V1.out.after hb)
              replace V2 := Lib.hid (V2.out.after hb)
              clear hb x0 x1 x2 hlx HF
              by_cases hgd : Ok true A B ∧ textL true A B = s
              · obtain ⟨g1, g2⟩ := hgd
                obtain ⟨HRG', _, _⟩ := HGOOD.out g1 g2
                have HRG := Lib.hid HRG'
                have hT : textX (fr true A B) = S := by rw [textX_fr g1, g2, HS.out]
                rw [hT]
                clear hT g1 g2 HRG' HBAD HGOOD
                obtain ⟨x0, x1, x2⟩ := BX.out.cells3
                have hlx := BX.out.lt
                obtain ⟨r0, r1, r2⟩ := BR.out.cells3
                have f0 := BR.out.frozen 0
                have f1 := BR.out.frozen 1
                have f2 := BR.out.frozen 2
                have hlr := BR.out.lt
                go_wp2_with fail
                obtain ⟨y0, y1, y2⟩ := (end_box BR.out (y0 := .bool true) (y1 := .slice p1 (limbs A).length c1) (y2 := .slice p2 (limbs B).length c2)).cells3
                refine bodyPost_ret (v := .tuple #[.agg #[.bool true, .slice p1 (limbs A).length c1, .slice p2 (limbs B).length c2], .int .i64 0]) (by simp [results, Try.results17, go_sem, y0, y1, y2]) rfl ?_
                rw [HRG.out]
                exact ⟨_, rfl, IsF.result (neg := true) BR.out (fun _ h => by cases h) (fun _ h => by cases h) V1.out V2.out, ((HB0.out.setCell (Nat.le_refl _) _).setCell (Nat.le_refl _) _).setCell (Nat.le_refl _) _⟩
              · have HRB : Hid (R = (F0, 4)) := HBAD.out (fun h => hgd ⟨validF_fr.1 h.1, h.2⟩)
                have hne : textX (fr true A B) ≠ S := fun e => by
                  by_cases hv : ValidF (fr true A B)
                  · rw [textX_fr (validF_fr.1 hv), ← HS.out] at e
                    exact hgd ⟨validF_fr.1 hv, bs_inj e⟩
                  · rw [textX_no hv, ← HS.out] at e
                    have e2 : s = [] := by have := bs_inj (a := []) (b := s) e; exact this.symm
                    have hr0 : r.length = 0 := hr0f.out e2
                    omega
                obtain ⟨TX, hT⟩ : ∃ TX, textX (fr true A B) = TX := ⟨_, rfl⟩
                rw [hT] at hne ⊢
                have hnl : (TX.toList == S.toList) = false := ba_ne hne
                clear hT HBAD HGOOD hgd
                obtain ⟨x0, x1, x2⟩ := BX.out.cells3
                have hlx := BX.out.lt
                obtain ⟨r0, r1, r2⟩ := BR.out.cells3
                have f0 := BR.out.frozen 0
                have f1 := BR.out.frozen 1
                have f2 := BR.out.frozen 2
                have hlr := BR.out.lt
                go_wp2_with fail
                obtain ⟨y0, y1, y2⟩ := (end_box BR.out (y0 := .bool false) (y1 := .slice none 0 0) (y2 := .slice none 0 0)).cells3
                refine bodyPost_ret (v := .tuple #[.agg #[.bool false, .slice none 0 0, .slice none 0 0], .int .i64 4]) (by simp [results, Try.results17, go_sem, y0, y1, y2]) rfl ?_
                rw [HRB.out]
                exact ⟨_, rfl, IsF.zero _, ((HB0.out.setCell (Nat.le_refl _) _).setCell (Nat.le_refl _) _).setCell (Nat.le_refl _) _⟩
    · clear HFR
      obtain ⟨q0, hq0⟩ : ∃ q, (T[0]'h0).toNat = q := ⟨_, rfl⟩
      rw [hq0] at h45
      have hn45 : ((q0 : Int) == 45) = false := beq_eq_false_iff_ne.2 (by omega)
      have hn45' : (q0 == 45) = false := beq_eq_false_iff_ne.2 h45
      go_enter Try.func17, Try.ntmps17
      go_upto_region 1 with fail
      rw [← hW]
      clear hW
      go_upto_region 6 with fail
      clear hq0 hn45 hn45' h45 h0
      go_loopg [6] r.length (fun g t wx => ∃ k : Nat, k ≤ K ∧ g = r.length - k ∧ t = .int .i64 (k : Int) ∧ wx = W0)
      case atStart => exact ⟨0, Nat.zero_le _, rfl, rfl, rfl⟩
      case round =>
        obtain ⟨k, hk, rfl, rfl, rfl⟩ := hrel
        by_cases hlt : k < K
        · have hks : k < T.size := by omega
          have hkr : k < r.length := by omega
          have hnq := HB4.out k hks hlt
          obtain ⟨q, hq⟩ : ∃ q, (T[k]'hks).toNat = q := ⟨_, rfl⟩
          rw [hq] at hnq
          have hb1 : ((q : Int) != 47) = true := by simp; omega
          have hb2 : (q != 47) = true := by simp [hnq]
          have hb3 : ((q : Int) == 47) = false := beq_eq_false_iff_ne.2 (by omega)
          have hb4 : (q == 47) = false := beq_eq_false_iff_ne.2 hnq
          clear hnq
          go_wp2_with fail
          go_roundg (r.length - (k + 1))
          case measure => omega
          case rel => exact ⟨k + 1, by omega, rfl, by go_num, rfl⟩
        · obtain rfl : k = K := by omega
          clear hlt HB4
          have hks : k < T.size := by omega
          have hq := HAT.out hks
          have e1 := HE1.out
          have e2 := HE2.out
          clear HAT HE1 HE2
          go_upto_region 10 with fail
          clear hq
          go_wp2_with fail
          refine (D1.out _).mono ?_
          rintro e w3 ⟨v1, rfl, hv1, hb⟩
          replace BR := Lib.hid (BR.out.after hb)
          replace HB0 := Lib.hid (HB0.out.trans (hb.mono HB0.out.size))
          obtain ⟨p1, c1, rfl, _, _⟩ := hv1.shape
          have V1 := Lib.hid hv1
          clear hb hv1
          go_wp2_with fail
          refine (D2.out _).mono ?_
          rintro e w4 ⟨v2, rfl, hv2, hb⟩
          replace BR := Lib.hid (BR.out.after hb)
          replace HB0 := Lib.hid (HB0.out.trans (hb.mono HB0.out.size))
          obtain ⟨p2, c2, rfl, _, _⟩ := hv2.shape
          replace V1 := Lib.hid (V1.out.after hb)
          have V2 := Lib.hid hv2
          clear hb hv2 e1 e2 D1 D2
          have hwr4 := BR.out.lt
          go_upto_region 13 with fail
          obtain ⟨W5, hW5⟩ : ∃ W5, W5 = w4.alloc (.cells #[.bool false, .slice p1 (limbs A).length c1, .slice p2 (limbs B).length c2] 25) := ⟨_, rfl⟩
          have hb : Below w4.heap.size w4 W5 := hW5 ▸ held_alloc (Below.refl _ w4)
          have bx : Box W5 w4.heap.size #[.bool false, .slice p1 (limbs A).length c1, .slice p2 (limbs B).length c2] 25 := hW5 ▸ Box.new w4 _ _
          replace BR := Lib.hid (BR.out.after hb)
          replace HB0 := Lib.hid (HB0.out.trans (hb.mono HB0.out.size))
          replace V1 := Lib.hid (V1.out.after hb)
          replace V2 := Lib.hid (V2.out.after hb)
          have hwr : w.heap.size < w4.heap.size := hwr4
          rw [← hW5]
          clear hW5 hb
          obtain ⟨X, hX⟩ : ∃ X, w4.heap.size = X := ⟨_, rfl⟩
          rw [hX] at bx hwr ⊢
          clear hX
          have BX := Lib.hid bx
          obtain ⟨x0, x1, x2⟩ := bx.cells3
          have hlx := bx.lt
          clear bx
          cases k1 with
          | false =>
            have HRB : Hid (R = (F0, 4)) := HBAD.out (fun h => by have := (HGOOD.out (validF_fr.1 h.1) h.2).2.1; cases this)
            clear HBAD HGOOD
            obtain ⟨r0, r1, r2⟩ := BR.out.cells3
            have f0 := BR.out.frozen 0
            have f1 := BR.out.frozen 1
            have f2 := BR.out.frozen 2
            have hlr := BR.out.lt
            go_wp2_with fail
            obtain ⟨y0, y1, y2⟩ := (end_box BR.out (y0 := .bool false) (y1 := .slice none 0 0) (y2 := .slice none 0 0)).cells3
            refine bodyPost_ret (v := .tuple #[.agg #[.bool false, .slice none 0 0, .slice none 0 0], .int .i64 4]) (by simp [results, Try.results17, go_sem, y0, y1, y2]) rfl ?_
            rw [HRB.out]
            exact ⟨_, rfl, IsF.zero _, ((HB0.out.setCell (Nat.le_refl _) _).setCell (Nat.le_refl _) _).setCell (Nat.le_refl _) _⟩
          | true =>
            cases k2 with
            | false =>
              have HRB : Hid (R = (F0, 4)) := HBAD.out (fun h => by have := (HGOOD.out (validF_fr.1 h.1) h.2).2.2; cases this)
              clear HBAD HGOOD
              obtain ⟨r0, r1, r2⟩ := BR.out.cells3
              have f0 := BR.out.frozen 0
              have f1 := BR.out.frozen 1
              have f2 := BR.out.frozen 2
              have hlr := BR.out.lt
              go_wp2_with fail
              obtain ⟨y0, y1, y2⟩ := (end_box BR.out (y0 := .bool false) (y1 := .slice none 0 0) (y2 := .slice none 0 0)).cells3
              refine bodyPost_ret (v := .tuple #[.agg #[.bool false, .slice none 0 0, .slice none 0 0], .int .i64 4]) (by simp [results, Try.results17, go_sem, y0, y1, y2]) rfl ?_
              rw [HRB.out]
              exact ⟨_, rfl, IsF.zero _, ((HB0.out.setCell (Nat.le_refl _) _).setCell (Nat.le_refl _) _).setCell (Nat.le_refl _) _⟩
            | true =>
              have HF : Hid (IsF W5 (.agg #[.bool false, .slice p1 (limbs A).length c1, .slice p2 (limbs B).length c2]) (fr false A B)) := ⟨_, _, rfl, V1.out, V2.out⟩
              go_wp2_with fail
              refine (rText_c W5 _ (fr false A B) HF.out).mono ?_
              rintro e w6 ⟨rfl, hb⟩
              replace BR := Lib.hid (BR.out.after hb)
              replace HB0 := Lib.hid (HB0.out.trans (hb.mono HB0.out.size))
              replace BX := Lib.hid (BX.out.after hb)
              replace V1 := Lib.hid (V1.out.after hb)
              replace V2 := Lib.hid (V2.out.after hb)
              clear hb x0 x1 x2 hlx HF
              by_cases hgd : Ok false A B ∧ textL false A B = s
              · obtain ⟨g1, g2⟩ := hgd
                obtain ⟨HRG', _, _⟩ := HGOOD.out g1 g2
                have HRG := Lib.hid HRG'
                have hT : textX (fr false A B) = T := by rw [textX_fr g1, g2, HS.out]
                rw [hT]
                clear hT g1 g2 HRG' HBAD HGOOD
                obtain ⟨x0, x1, x2⟩ := BX.out.cells3
                have hlx := BX.out.lt
                obtain ⟨r0, r1, r2⟩ := BR.out.cells3
                have f0 := BR.out.frozen 0
                have f1 := BR.out.frozen 1
                have f2 := BR.out.frozen 2
                have hlr := BR.out.lt
                go_wp2_with fail
                obtain ⟨y0, y1, y2⟩ := (end_box BR.out (y0 := .bool false) (y1 := .slice p1 (limbs A).length c1) (y2 := .slice p2 (limbs B).length c2)).cells3
                refine bodyPost_ret (v := .tuple #[.agg #[.bool false, .slice p1 (limbs A).length c1, .slice p2 (limbs B).length c2], .int .i64 0]) (by simp [results, Try.results17, go_sem, y0, y1, y2]) rfl ?_
                rw [HRG.out]
                exact ⟨_, rfl, IsF.result (neg := false) BR.out (fun _ h => by cases h) (fun _ h => by cases h) V1.out V2.out, ((HB0.out.setCell (Nat.le_refl _) _).setCell (Nat.le_refl _) _).setCell (Nat.le_refl _) _⟩
              · have HRB : Hid (R = (F0, 4)) := HBAD.out (fun h => hgd ⟨validF_fr.1 h.1, h.2⟩)
                have hne : textX (fr false A B) ≠ T := fun e => by
                  by_cases hv : ValidF (fr false A B)
                  · rw [textX_fr (validF_fr.1 hv), ← HS.out] at e
                    exact hgd ⟨validF_fr.1 hv, bs_inj e⟩
                  · rw [textX_no hv, ← HS.out] at e
                    have e2 : s = [] := by have := bs_inj (a := []) (b := s) e; exact this.symm
                    have hr0 : r.length = 0 := hr0f.out e2
                    omega
                obtain ⟨TX, hT⟩ : ∃ TX, textX (fr false A B) = TX := ⟨_, rfl⟩
                rw [hT] at hne ⊢
                have hnl : (TX.toList == T.toList) = false := ba_ne hne
                clear hT HBAD HGOOD hgd
                obtain ⟨x0, x1, x2⟩ := BX.out.cells3
                have hlx := BX.out.lt
                obtain ⟨r0, r1, r2⟩ := BR.out.cells3
                have f0 := BR.out.frozen 0
                have f1 := BR.out.frozen 1
                have f2 := BR.out.frozen 2
                have hlr := BR.out.lt
                go_wp2_with fail
                obtain ⟨y0, y1, y2⟩ := (end_box BR.out (y0 := .bool false) (y1 := .slice none 0 0) (y2 := .slice none 0 0)).cells3
                refine bodyPost_ret (v := .tuple #[.agg #[.bool false, .slice none 0 0, .slice none 0 0], .int .i64 4]) (by simp [results, Try.results17, go_sem, y0, y1, y2]) rfl ?_
                rw [HRB.out]
                exact ⟨_, rfl, IsF.zero _, ((HB0.out.setCell (Nat.le_refl _) _).setCell (Nat.le_refl _) _).setCell (Nat.le_refl _) _⟩
  · have HRB : Hid (R = (F0, 4)) := by show _ = _; rw [← HR.out]; exact readF_bad (fun h => hf (HFD.out h).1)
    clear HFD HR HN HD HNG hr0f
    rcases HFR.out with ⟨h0, rfl, rfl⟩ | ⟨h0, h45, rfl, hex⟩ | ⟨h0, h45, rfl, rfl⟩
    · clear HFR
      go_enter Try.func17, Try.ntmps17
      go_upto_region 1 with fail
      rw [← hW]
      clear hW
      go_upto_region 6 with fail
      clear h0
      go_loopg [6] r.length (fun g t wx => ∃ k : Nat, k ≤ K ∧ g = r.length - k ∧ t = .int .i64 (k : Int) ∧ wx = W0)
      case atStart => exact ⟨0, Nat.zero_le _, rfl, rfl, rfl⟩
      case round =>
        obtain ⟨k, hk, rfl, rfl, rfl⟩ := hrel
        by_cases hlt : k < K
        · have hks : k < T.size := by omega
          have hkr : k < r.length := by omega
          have hnq := HB4.out k hks hlt
          obtain ⟨q, hq⟩ : ∃ q, (T[k]'hks).toNat = q := ⟨_, rfl⟩
          rw [hq] at hnq
          have hb1 : ((q : Int) != 47) = true := by simp; omega
          have hb2 : (q != 47) = true := by simp [hnq]
          have hb3 : ((q : Int) == 47) = false := beq_eq_false_iff_ne.2 (by omega)
          have hb4 : (q == 47) = false := beq_eq_false_iff_ne.2 hnq
          clear hnq
          go_wp2_with fail
          go_roundg (r.length - (k + 1))
          case measure => omega
          case rel => exact ⟨k + 1, by omega, rfl, by go_num, rfl⟩
        · obtain rfl : k = K := by omega
          clear hlt HB4
          obtain rfl : k = r.length := by omega
          obtain ⟨r0, r1, r2⟩ := BR.out.cells3
          have f0 := BR.out.frozen 0
          have f1 := BR.out.frozen 1
          have f2 := BR.out.frozen 2
          have hlr := BR.out.lt
          clear HE1 HE2 HAT
          go_wp2_with fail
          obtain ⟨y0, y1, y2⟩ := (end_box BR.out (y0 := .bool false) (y1 := .slice none 0 0) (y2 := .slice none 0 0)).cells3
          refine bodyPost_ret (v := .tuple #[.agg #[.bool false, .slice none 0 0, .slice none 0 0], .int .i64 4]) (by simp [results, Try.results17, go_sem, y0, y1, y2]) rfl ?_
          rw [HRB.out]
          exact ⟨_, rfl, IsF.zero _, ((HB0.out.setCell (Nat.le_refl _) _).setCell (Nat.le_refl _) _).setCell (Nat.le_refl _) _⟩
    · clear HFR
      have q0 : ((45 : Nat) : Int) = 45 := rfl
      have hlen1 : 1 ≤ s.length := by omega
      go_enter Try.func17, Try.ntmps17
      go_upto_region 1 with fail
      rw [← hW]
      clear hW
      go_upto_region 6 with fail
      clear hex h45 h0
      go_loopg [6] r.length (fun g t wx => ∃ k : Nat, k ≤ K ∧ g = r.length - k ∧ t = .int .i64 (k : Int) ∧ wx = W0)
      case atStart => exact ⟨0, Nat.zero_le _, rfl, rfl, rfl⟩
      case round =>
        obtain ⟨k, hk, rfl, rfl, rfl⟩ := hrel
        by_cases hlt : k < K
        · have hks : k < T.size := by omega
          have hkr : k < r.length := by omega
          have hnq := HB4.out k hks hlt
          obtain ⟨q, hq⟩ : ∃ q, (T[k]'hks).toNat = q := ⟨_, rfl⟩
          rw [hq] at hnq
          have hb1 : ((q : Int) != 47) = true := by simp; omega
          have hb2 : (q != 47) = true := by simp [hnq]
          have hb3 : ((q : Int) == 47) = false := beq_eq_false_iff_ne.2 (by omega)
          have hb4 : (q == 47) = false := beq_eq_false_iff_ne.2 hnq
          clear hnq
          go_wp2_with fail
          go_roundg (r.length - (k + 1))
          case measure => omega
          case rel => exact ⟨k + 1, by omega, rfl, by go_num, rfl⟩
        · obtain rfl : k = K := by omega
          clear hlt HB4
          obtain rfl : k = r.length := by omega
          obtain ⟨r0, r1, r2⟩ := BR.out.cells3
          have f0 := BR.out.frozen 0
          have f1 := BR.out.frozen 1
          have f2 := BR.out.frozen 2
          have hlr := BR.out.lt
          clear HE1 HE2 HAT
          go_wp2_with fail
          obtain ⟨y0, y1, y2⟩ := (end_box BR.out (y0 := .bool false) (y1 := .slice none 0 0) (y2 := .slice none 0 0)).cells3
          refine bodyPost_ret (v := .tuple #[.agg #[.bool false, .slice none 0 0, .slice none 0 0], .int .i64 4]) (by simp [results, Try.results17, go_sem, y0, y1, y2]) rfl ?_
          rw [HRB.out]
          exact ⟨_, rfl, IsF.zero _, ((HB0.out.setCell (Nat.le_refl _) _).setCell (Nat.le_refl _) _).setCell (Nat.le_refl _) _⟩
    · clear HFR
      obtain ⟨q0, hq0⟩ : ∃ q, (T[0]'h0).toNat = q := ⟨_, rfl⟩
      rw [hq0] at h45
      have hn45 : ((q0 : Int) == 45) = false := beq_eq_false_iff_ne.2 (by omega)
      have hn45' : (q0 == 45) = false := beq_eq_false_iff_ne.2 h45
      go_enter Try.func17, Try.ntmps17
      go_upto_region 1 with fail
      rw [← hW]
      clear hW
      go_upto_region 6 with fail
      clear hq0 hn45 hn45' h45 h0
      go_loopg [6] r.length (fun g t wx => ∃ k : Nat, k ≤ K ∧ g = r.length - k ∧ t = .int .i64 (k : Int) ∧ wx = W0)
      case atStart => exact ⟨0, Nat.zero_le _, rfl, rfl, rfl⟩
      case round =>
        obtain ⟨k, hk, rfl, rfl, rfl⟩ := hrel
        by_cases hlt : k < K
        · have hks : k < T.size := by omega
          have hkr : k < r.length := by omega
          have hnq := HB4.out k hks hlt
          obtain ⟨q, hq⟩ : ∃ q, (T[k]'hks).toNat = q := ⟨_, rfl⟩
          rw [hq] at hnq
          have hb1 : ((q : Int) != 47) = true := by simp; omega
          have hb2 : (q != 47) = true := by simp [hnq]
          have hb3 : ((q : Int) == 47) = false := beq_eq_false_iff_ne.2 (by omega)
          have hb4 : (q == 47) = false := beq_eq_false_iff_ne.2 hnq
          clear hnq
          go_wp2_with fail
          go_roundg (r.length - (k + 1))
          case measure => omega
          case rel => exact ⟨k + 1, by omega, rfl, by go_num, rfl⟩
        · obtain rfl : k = K := by omega
          clear hlt HB4
          obtain rfl : k = r.length := by omega
          obtain ⟨r0, r1, r2⟩ := BR.out.cells3
          have f0 := BR.out.frozen 0
          have f1 := BR.out.frozen 1
          have f2 := BR.out.frozen 2
          have hlr := BR.out.lt
          clear HE1 HE2 HAT
          go_wp2_with fail
          obtain ⟨y0, y1, y2⟩ := (end_box BR.out (y0 := .bool false) (y1 := .slice none 0 0) (y2 := .slice none 0 0)).cells3
          refine bodyPost_ret (v := .tuple #[.agg #[.bool false, .slice none 0 0, .slice none 0 0], .int .i64 4]) (by simp [results, Try.results17, go_sem, y0, y1, y2]) rfl ?_
          rw [HRB.out]
          exact ⟨_, rfl, IsF.zero _, ((HB0.out.setCell (Nat.le_refl _) _).setCell (Nat.le_refl _) _).setCell (Nat.le_refl _) _⟩
end Go.Proofs.Ytaojdlcailpheaa
