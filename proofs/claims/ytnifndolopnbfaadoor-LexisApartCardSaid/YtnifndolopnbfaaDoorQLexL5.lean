/- Walk of a statement about layer 1: LexisApart. -/
import Derived.Test.YtnifndolopnbfaaDoorK07
import Derived.Test.YtnifndolopnbfaaDoorQLexQ4
import Derived.Deep.QuietTactic
set_option linter.unusedVariables false
namespace Go.Proofs.YtnifndolopnbfaaDoor
open Go.RowKit

set_option maxRecDepth 100000 in
set_option maxHeartbeats 4000000 in
theorem apart_long (w : World) (a b : List UInt8) (hl : a.length ≤ 9223372036854775807) (hl2 : b.length ≤ 9223372036854775807) (h : 2000 < a.length ∨ 2000 < b.length) : Calls Tryd.prog 8 #[.string (bs a), .string (bs b)] w fun e w' => e = .returned (.bool true) ∧ Below w.heap.size w w' := by
  have hsa : (bs a).size = a.length := bs_size a
  have hsb : (bs b).size = b.length := bs_size b
  have fin : ∀ W, Below w.heap.size w W → Calls Tryd.prog 13 #[] W fun e w' => e = .returned (.bool true) ∧ Below w.heap.size w w' := fun W hb => (awake_c W).mono (fun e w' h => ⟨h.1, hb.trans (h.2.mono hb.size)⟩)
  have FIN := Lib.hid (fin w (Below.refl _ _))
  clear fin
  by_cases h1 : 2000 < a.length
  · have h2 : decide (2000 < (a.length : Int)) = true := decide_eq_true (by omega)
    clear h h1
    go_enter Tryd.func8, Tryd.ntmps8
    go_wp2_with fail
    refine FIN.out.mono ?_
    rintro e w1 ⟨rfl, hb⟩
    have HB := Lib.hid hb
    clear hb
    go_wp2_with fail
    go_ret
    exact ⟨rfl, HB.out⟩
  · have h2 : decide (2000 < (a.length : Int)) = false := decide_eq_false (by omega)
    have h3 : decide (2000 < (b.length : Int)) = true := decide_eq_true (by omega)
    clear h h1
    go_enter Tryd.func8, Tryd.ntmps8
    go_wp2_with fail
    refine FIN.out.mono ?_
    rintro e w1 ⟨rfl, hb⟩
    have HB := Lib.hid hb
    clear hb
    go_wp2_with fail
    go_ret
    exact ⟨rfl, HB.out⟩
set_option maxRecDepth 100000 in
set_option maxHeartbeats 4000000 in
theorem apart_err1 (w : World) (a b : List UInt8) (hl : a.length ≤ 2000) (hl2 : b.length ≤ 2000) (h : (toksF a).2.2 ≠ 0) : Calls Tryd.prog 8 #[.string (bs a), .string (bs b)] w fun e w' => e = .returned (.bool true) ∧ Below w.heap.size w w' := by
  have hsa : (bs a).size = a.length := bs_size a
  have hsb : (bs b).size = b.length := bs_size b
  have h1 := apart_first hl hl2 h
  have h2 := (toks_err h).1
  obtain ⟨⟨ts, at_, er⟩, hR⟩ : ∃ R, toksF a = R := ⟨_, rfl⟩
  rw [hR] at h h1 h2
  simp only at h h2
  subst h2
  obtain ⟨⟨us, bt, ef⟩, hB⟩ : ∃ R, toksF b = R := ⟨_, rfl⟩
  have HR := Lib.hid hR
  have HB := Lib.hid hB
  have HC := Lib.hid h1
  have he : ((er : Int) != 0) = true := by simp; omega
  obtain ⟨c1, hc1⟩ : ∃ r, a ++ [10] = r := ⟨_, rfl⟩
  obtain ⟨c2, hc2⟩ : ∃ r, c1 ++ b = r := ⟨_, rfl⟩
  have hcat : a ++ 10 :: b = c2 := by rw [← hc2, ← hc1]; simp
  rw [hcat] at HC
  have e1 : bs a ++ (⟨#[10]⟩ : ByteArray) = bs c1 := (append_bs a [10]).trans (congrArg bs hc1)
  have e2 : bs c1 ++ bs b = bs c2 := (append_bs c1 b).trans (congrArg bs hc2)
  have z1 : (bs c1).size = c1.length := bs_size c1
  have l1 : c1.length ≤ 2001 := by rw [← hc1]; simp; omega
  have l2 : c2.length ≤ 4001 := by rw [← hc2]; simp; omega
  clear hR hB h h1 hc1 hc2 hcat
  go_enter Tryd.func8, Tryd.ntmps8
  go_wp2_with fail
  refine (Tokens_c _ a (by omega)).mono ?_
  rw [HR.out]
  rintro e w1 ⟨v1, rfl, hv1, hb1⟩
  obtain ⟨a1, k1, rfl, _⟩ := hv1.shape
  have B1 := Lib.hid hb1
  clear hv1 hb1
  go_wp2_with fail
  refine (Tokens_c _ b (by omega)).mono ?_
  rw [HB.out]
  rintro e w2 ⟨v2, rfl, hv2, hb2⟩
  obtain ⟨a2, k2, rfl, _⟩ := hv2.shape
  have B2 := Lib.hid (B1.out.trans (hb2.mono B1.out.size))
  clear hv2 hb2
  go_wp2_with fail
  refine (Tokens_c _ c2 (by omega)).mono ?_
  rw [HC.out]
  rintro e w3 ⟨v3, rfl, hv3, hb3⟩
  obtain ⟨a3, k3, rfl, _⟩ := hv3.shape
  have B3 := Lib.hid (B2.out.trans (hb3.mono B2.out.size))
  clear hv3 hb3
  go_wp2_with fail
  refine (awake_c _).mono ?_
  rintro e w5 ⟨rfl, hb5⟩
  have B5 := Lib.hid (B3.out.trans (hb5.mono B3.out.size))
  clear hb5
  go_wp2_with fail
  go_ret
  exact ⟨rfl, B5.out⟩
set_option maxRecDepth 100000 in
set_option maxHeartbeats 4000000 in
theorem apart_err2 (w : World) (a b : List UInt8) (hl : a.length ≤ 2000) (hl2 : b.length ≤ 2000) (h0 : (toksF a).2.2 = 0) (h : (toksF b).2.2 ≠ 0) : Calls Tryd.prog 8 #[.string (bs a), .string (bs b)] w fun e w' => e = .returned (.bool true) ∧ Below w.heap.size w w' := by
  have hsa : (bs a).size = a.length := bs_size a
  have hsb : (bs b).size = b.length := bs_size b
  have h1 := apart_second hl hl2 h0 h
  obtain ⟨h2, h3, h4⟩ := toks_err h
  obtain ⟨⟨ts, at_, er⟩, hR⟩ : ∃ R, toksF a = R := ⟨_, rfl⟩
  obtain ⟨⟨us, bt, ef⟩, hB⟩ : ∃ R, toksF b = R := ⟨_, rfl⟩
  rw [hR] at h0
  rw [hB] at h h1 h2 h3 h4
  simp only at h0 h h1 h2 h3 h4
  subst h0
  subst h2
  have HR := Lib.hid hR
  have HB := Lib.hid hB
  have HC := Lib.hid h1
  have he : ((ef : Int) != 0) = true := by simp; omega
  obtain ⟨c1, hc1⟩ : ∃ r, a ++ [10] = r := ⟨_, rfl⟩
  obtain ⟨c2, hc2⟩ : ∃ r, c1 ++ b = r := ⟨_, rfl⟩
  have hcat : a ++ 10 :: b = c2 := by rw [← hc2, ← hc1]; simp
  rw [hcat] at HC
  have e1 : bs a ++ (⟨#[10]⟩ : ByteArray) = bs c1 := (append_bs a [10]).trans (congrArg bs hc1)
  have e2 : bs c1 ++ bs b = bs c2 := (append_bs c1 b).trans (congrArg bs hc2)
  have z1 : (bs c1).size = c1.length := bs_size c1
  have l1 : c1.length ≤ 2001 := by rw [← hc1]; simp; omega
  have l2 : c2.length ≤ 4001 := by rw [← hc2]; simp; omega
  clear hR hB h h1 hc1 hc2 hcat
  go_enter Tryd.func8, Tryd.ntmps8
  go_wp2_with fail
  refine (Tokens_c _ a (by omega)).mono ?_
  rw [HR.out]
  rintro e w1 ⟨v1, rfl, hv1, hb1⟩
  obtain ⟨a1, k1, rfl, _⟩ := hv1.shape
  have B1 := Lib.hid hb1
  clear hv1 hb1
  go_wp2_with fail
  refine (Tokens_c _ b (by omega)).mono ?_
  rw [HB.out]
  rintro e w2 ⟨v2, rfl, hv2, hb2⟩
  obtain ⟨a2, k2, rfl, _⟩ := hv2.shape
  have B2 := Lib.hid (B1.out.trans (hb2.mono B1.out.size))
  clear hv2 hb2
  go_wp2_with fail
  refine (Tokens_c _ c2 (by omega)).mono ?_
  rw [HC.out]
  rintro e w3 ⟨v3, rfl, hv3, hb3⟩
  obtain ⟨a3, k3, rfl, _⟩ := hv3.shape
  have B3 := Lib.hid (B2.out.trans (hb3.mono B2.out.size))
  clear hv3 hb3
  go_wp2_with fail
  refine (awake_c _).mono ?_
  rintro e w5 ⟨rfl, hb5⟩
  have B5 := Lib.hid (B3.out.trans (hb5.mono B3.out.size))
  clear hb5
  go_wp2_with fail
  go_ret
  exact ⟨rfl, B5.out⟩
set_option maxRecDepth 100000 in
set_option maxHeartbeats 4000000 in
theorem apart_ok (w : World) (a b : List UInt8) (hl : a.length ≤ 2000) (hl2 : b.length ≤ 2000) (h0 : (toksF a).2.2 = 0) (h : (toksF b).2.2 = 0) : Calls Tryd.prog 8 #[.string (bs a), .string (bs b)] w fun e w' => e = .returned (.bool true) ∧ Below w.heap.size w w' := by
  have hsa : (bs a).size = a.length := bs_size a
  have hsb : (bs b).size = b.length := bs_size b
  have h1 := apart_both hl hl2 h0 h
  have h2 := toks_off b h
  have h3 := toks_len a
  have h4 := toks_len b
  obtain ⟨⟨ts, at_, er⟩, hR⟩ : ∃ R, toksF a = R := ⟨_, rfl⟩
  obtain ⟨⟨us, bt, ef⟩, hB⟩ : ∃ R, toksF b = R := ⟨_, rfl⟩
  rw [hR] at h0 h1 h3
  rw [hB] at h h1 h2 h4
  simp only at h0 h h1 h2 h3 h4
  subst h0
  subst h
  have HR := Lib.hid hR
  have HB := Lib.hid hB
  have HC := Lib.hid h1
  obtain ⟨c1, hc1⟩ : ∃ r, a ++ [10] = r := ⟨_, rfl⟩
  obtain ⟨c2, hc2⟩ : ∃ r, c1 ++ b = r := ⟨_, rfl⟩
  have hcat : a ++ 10 :: b = c2 := by rw [← hc2, ← hc1]; simp
  rw [hcat] at HC
  have e1 : bs a ++ (⟨#[10]⟩ : ByteArray) = bs c1 := (append_bs a [10]).trans (congrArg bs hc1)
  have e2 : bs c1 ++ bs b = bs c2 := (append_bs c1 b).trans (congrArg bs hc2)
  have z1 : (bs c1).size = c1.length := bs_size c1
  have l1 : c1.length ≤ 2001 := by rw [← hc1]; simp; omega
  have l2 : c2.length ≤ 4001 := by rw [← hc2]; simp; omega
  obtain ⟨m, hm⟩ : ∃ m, ts.length = m := ⟨_, rfl⟩
  obtain ⟨n, hn⟩ : ∃ n, us.length = n := ⟨_, rfl⟩
  obtain ⟨ms, hms⟩ : ∃ ms, us.map (move (a.length + 1)) = ms := ⟨_, rfl⟩
  have hmb : ms.map bare = us.map bare := by rw [← hms]; exact move_bare _ _
  have hml : ms.length = n := by rw [← hms, List.length_map, hn]
  have hmo : ∀ i (h : i < us.length), (tok ms i).off = (tok us i).off + ((a.length : Int) + 1) := by
    intro i hi
    rw [← hms, tok_get (by rw [List.length_map]; exact hi), List.getElem_map, tok_get hi]
    simp [move, Tok.at_]
  rw [hms] at HC
  have HMB := Lib.hid hmb
  have HMO := Lib.hid hmo
  have HML := Lib.hid hml
  have HM := Lib.hid hm
  have HN := Lib.hid hn
  have HOFF := Lib.hid h2
  have HTK : Hid ((ts ++ ms).take m = ts) := by show _ = _; rw [← hm]; exact List.take_left
  have HDR : Hid ((ts ++ ms).drop m = ms) := by show _ = _; rw [← hm]; exact List.drop_left
  have HLL : Hid ((ts ++ ms).length = m + n) := by show _ = _; rw [List.length_append, hm, hml]
  rw [hm] at h3
  rw [hn] at h4
  clear hR hB h1 h2 hc1 hc2 hcat hms hmb hmo hml
  go_enter Tryd.func8, Tryd.ntmps8
  go_wp2_with fail
  refine (Tokens_c _ a (by omega)).mono ?_
  rw [HR.out]
  rintro e w1 ⟨v1, rfl, hv1, hb1⟩
  obtain ⟨a1, k1, rfl, q1, q2, _⟩ := hv1.shape
  have V1 := Lib.hid hv1
  have B1 := Lib.hid hb1
  rw [hm] at V1 q1 ⊢
  clear hv1 hb1
  go_wp2_with fail
  refine (Tokens_c _ b (by omega)).mono ?_
  rw [HB.out]
  rintro e w2 ⟨v2, rfl, hv2, hb2⟩
  obtain ⟨a2, k2, rfl, q3, q4, _⟩ := hv2.shape
  have V2 := Lib.hid hv2
  have V1 := Lib.hid (V1.out.after hb2)
  have B2 := Lib.hid (B1.out.trans (hb2.mono B1.out.size))
  rw [hn] at V2 q3 ⊢
  clear hv2 hb2
  go_wp2_with fail
  refine (Tokens_c _ c2 (by omega)).mono ?_
  rw [HC.out]
  rintro e w3 ⟨v3, rfl, hv3, hb3⟩
  obtain ⟨a3, k3, rfl, q5, q6, _⟩ := hv3.shape
  have V3 := Lib.hid hv3
  have V1 := Lib.hid (V1.out.after hb3)
  have V2 := Lib.hid (V2.out.after hb3)
  have B3 := Lib.hid (B2.out.trans (hb3.mono B2.out.size))
  rw [HLL.out] at V3 q5 ⊢
  clear hv3 hb3 hm hn
  have F3 : Hid (SlK w3 (.slice a3 m k3) ts) := by have := V3.out.front m (by omega); rw [HTK.out] at this; exact this
  rcases Nat.eq_zero_or_pos (m + n) with hz | hz
  · obtain rfl : m = 0 := by omega
    obtain rfl : n = 0 := by omega
    go_wp2_with fail
    refine (equal_yes _ _ _ ts F3.out V1.out).mono ?_
    rintro e w4 ⟨rfl, hb4⟩
    have B4 := Lib.hid (B3.out.trans (hb4.mono B3.out.size))
    clear hb4
    go_wp2_with fail
    refine (same_none _ _ _ _ _).mono ?_
    rintro e w5 ⟨rfl, hb5⟩
    have B5 := Lib.hid (B4.out.trans (hb5.mono B4.out.size))
    clear hb5
    go_wp2_with fail
    go_loopw [14] (fun t wx => t = .int .i64 0 ∧ Hid (wx = w5)) (fun t _ => 0)
    case atStart => exact ⟨rfl, rfl⟩
    case round =>
      obtain ⟨rfl, hw⟩ := hrel
      obtain rfl := hw.out
      clear hw
      go_wp2_with fail
      refine (awake_c _).mono ?_
      rintro e w6 ⟨rfl, hb6⟩
      have B6 := Lib.hid (B5.out.trans (hb6.mono B5.out.size))
      clear hb6
      go_wp2_with fail
      go_ret
      exact ⟨rfl, B6.out⟩
  · obtain ⟨b3, off3, c3, e3, _, _, hlt3, hcells⟩ := V3.out.at_ (by rw [HLL.out]; exact hz)
    injection e3 with x1 x2 x3
    clear x2
    subst x1
    subst x3
    have HCL := Lib.hid hcells
    clear hcells
    go_wp2_with fail
    refine (equal_yes _ _ _ ts F3.out V1.out).mono ?_
    rintro e w4 ⟨rfl, hb4⟩
    have B4 := Lib.hid (B3.out.trans (hb4.mono B3.out.size))
    have V2 := Lib.hid (V2.out.after hb4)
    have HB4 := Lib.hid hb4
    clear hb4
    go_wp2_with fail
    · have hn0 : n = 0 := by omega
      subst hn0
      refine (same_none _ _ _ _ _).mono ?_
      rintro e w5 ⟨rfl, hb5⟩
      have B5 := Lib.hid (B4.out.trans (hb5.mono B4.out.size))
      clear hb5
      go_wp2_with fail
      go_loopw [14] (fun t wx => t = .int .i64 0 ∧ Hid (wx = w5)) (fun t _ => 0)
      case atStart => exact ⟨rfl, rfl⟩
      case round =>
        obtain ⟨rfl, hw⟩ := hrel
        obtain rfl := hw.out
        clear hw
        go_wp2_with fail
        refine (awake_c _).mono ?_
        rintro e w6 ⟨rfl, hb6⟩
        have B6 := Lib.hid (B5.out.trans (hb6.mono B5.out.size))
        clear hb6
        go_wp2_with fail
        go_ret
        exact ⟨rfl, B6.out⟩
    · have hbk : Hid (SlK w4 (.slice (some ⟨b3, off3 + m * 4, none⟩) n (k3 - m)) ms) := by
        have := V3.out.back m (by omega)
        rw [HDR.out, Nat.add_sub_cancel_left] at this
        exact this.after HB4.out
      refine (same_yes _ _ _ ms us hbk.out V2.out HMB.out).mono ?_
      rintro e w5 ⟨rfl, hb5⟩
      have B5 := Lib.hid (B4.out.trans (hb5.mono B4.out.size))
      have HB5 := Lib.hid (HB4.out.trans (hb5.mono HB4.out.size))
      have V2 := Lib.hid (V2.out.after hb5)
      clear hb5
      go_wp2_with fail
      go_loopw [14] (fun t wx => ∃ k : Nat, k ≤ n ∧ t = .int .i64 (k : Int) ∧ Hid (∃ q, wx = w5.drewN q)) (fun t _ => n - (intOf t).toNat)
      case atStart => exact ⟨0, Nat.zero_le _, rfl, ⟨0, rfl⟩⟩
      case round =>
        obtain ⟨k, hk, rfl, hw⟩ := hrel
        obtain ⟨q, rfl⟩ := hw.out
        clear hw
        by_cases hlt : k < n
        · have hku : k < us.length := by rw [HN.out]; exact hlt
          obtain ⟨b2, off2, c4, e4, _, _, hlt2, hd⟩ := V2.out.at_ (by omega)
          injection e4 with y1 y2 y3
          clear y2
          subst y1
          subst y3
          obtain ⟨_, _, _, d3⟩ := hd k hku
          have c3 := (HCL.out (m + k) (by rw [HLL.out]; omega)).2.2.2
          have c3 := keep_cell HB5.out c3
          have htk : tok (ts ++ ms) (m + k) = tok ms k := by
            unfold tok
            rw [List.getD_eq_getElem?_getD, List.getD_eq_getElem?_getD, List.getElem?_append_right (by rw [HM.out]; omega), HM.out, Nat.add_sub_cancel_left]
          rw [htk, HMO.out k hku] at c3
          have hof := HOFF.out (tok us k) (by rw [tok_get hku]; exact List.getElem_mem hku)
          obtain ⟨oo, hoo⟩ : ∃ oo, (tok us k).off = oo := ⟨_, rfl⟩
          rw [hoo] at c3 d3 hof
          rw [Int.add_comm oo] at c3
          obtain ⟨o1, o2⟩ := hof
          have g1 : (0 : Int) ≤ (m : Int) + (k : Int) := by omega
          have g2 : (m : Int) + (k : Int) < ((m + n : Nat) : Int) := by omega
          have g3 : ((m : Int) + (k : Int)).toNat = m + k := by omega
          have g4 : (m : Int) + (k : Int) < (m : Int) + (n : Int) := by omega
          clear hd hoo htk
          go_wp2_with fail
          go_quiet (fail)
          go_wp2_with fail
          go_roundw
          case rel => exact ⟨k + 1, by omega, by go_num, ⟨_, rfl⟩⟩
          case measure => simp [intOf]; omega
        · obtain rfl : k = n := by omega
          have hbd := below_drewN w5 q w5.heap.size
          have BD := Lib.hid (B5.out.trans (hbd.mono B5.out.size))
          clear hbd
          go_wp2_with fail
          refine (awake_c _).mono ?_
          rintro e w6 ⟨rfl, hb6⟩
          have B6 := Lib.hid (BD.out.trans (hb6.mono BD.out.size))
          clear hb6
          go_wp2_with fail
          go_ret
          exact ⟨rfl, B6.out⟩
theorem lexisApart_w (w : World) (a b : List UInt8) (hl : a.length ≤ 9223372036854775807) (hl2 : b.length ≤ 9223372036854775807) : Calls Tryd.prog 8 #[.string (bs a), .string (bs b)] w fun e w' => e = .returned (.bool true) ∧ Below w.heap.size w w' := by
  by_cases h : 2000 < a.length ∨ 2000 < b.length
  · exact apart_long w a b hl hl2 h
  · have ha : a.length ≤ 2000 := by omega
    have hb : b.length ≤ 2000 := by omega
    by_cases h0 : (toksF a).2.2 = 0
    · by_cases h1 : (toksF b).2.2 = 0
      · exact apart_ok w a b ha hb h0 h1
      · exact apart_err2 w a b ha hb h0 h1
    · exact apart_err1 w a b ha hb h0
end Go.Proofs.YtnifndolopnbfaaDoor
