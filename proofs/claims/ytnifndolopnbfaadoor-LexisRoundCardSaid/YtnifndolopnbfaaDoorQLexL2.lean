/- Walks of the statements about layer 1: LexisTokens, LexisPrints, LexisRound. -/
import Derived.Test.YtnifndolopnbfaaDoorK07
set_option linter.unusedVariables false
namespace Go.Proofs.YtnifndolopnbfaaDoor
open Go.RowKit

set_option maxRecDepth 100000 in
set_option maxHeartbeats 4000000 in
theorem lexisTokens_w (w : World) (l : List UInt8) (hl : l.length ≤ 9223372036854775807) : Calls Tryd.prog 3 #[.string (bs l)] w fun e w' => e = .returned (.bool true) ∧ Below w.heap.size w w' := by
  obtain ⟨⟨ts, at_, er⟩, hR⟩ : ∃ R, toksF l = R := ⟨_, rfl⟩
  have HR := Lib.hid hR
  clear hR
  go_enter Tryd.func3, Tryd.ntmps3
  go_wp2_with fail
  refine (Tokens_c _ l hl).mono ?_
  rw [HR.out]
  rintro e w1 ⟨v, rfl, hv, hb1⟩
  have HV := Lib.hid hv
  have HB1 := Lib.hid hb1
  clear hv hb1
  go_wp2_with fail
  refine (rTokens_c _ l hl).mono ?_
  rw [HR.out]
  rintro e w2 ⟨u, rfl, hu, hb2⟩
  have HU := Lib.hid hu
  have HV2 := Lib.hid (HV.out.after hb2)
  have HB2 := Lib.hid (HB1.out.trans (hb2.mono HB1.out.size))
  clear hu hb2
  go_wp2_with fail
  refine (equal_yes _ _ _ _ HV2.out HU.out).mono ?_
  rintro e w3 ⟨rfl, hb3⟩
  have HB3 := Lib.hid (HB2.out.trans (hb3.mono HB2.out.size))
  clear hb3
  go_wp2_with fail
  refine (awake_c _).mono ?_
  rintro e w4 ⟨rfl, hb4⟩
  have HB4 := Lib.hid (HB3.out.trans (hb4.mono HB3.out.size))
  clear hb4
  go_wp2_with fail
  go_ret
  exact ⟨rfl, HB4.out⟩
set_option maxRecDepth 100000 in
set_option maxHeartbeats 4000000 in
theorem lexisPrints_w (w : World) (v : Value) (ts : List Tok) (h : SlK w v ts) : Calls Tryd.prog 4 #[v] w fun e w' => e = .returned (.bool true) ∧ Below w.heap.size w w' := by
  have h' := h
  obtain ⟨a, c, rfl, h1, h2, _⟩ := h.shape
  obtain ⟨m, hm⟩ : ∃ m, min ts.length 5000 = m := ⟨_, rfl⟩
  have H := Lib.hid (h'.front m (by omega))
  have HL : Hid ((ts.take m).length ≤ 1000000) := by show _ ≤ _; rw [List.length_take]; omega
  obtain ⟨us, hus⟩ : ∃ us, ts.take m = us := ⟨_, rfl⟩
  rw [hus] at H HL
  obtain ⟨⟨y, er⟩, hR⟩ : ∃ R, printF us = R := ⟨_, rfl⟩
  have HR := Lib.hid hR
  have hm1 : min (ts.length : Int) 5000 = (m : Int) := by omega
  have hm2 : m ≤ ts.length := by omega
  clear hR hus h h' hm
  go_enter Tryd.func4, Tryd.ntmps4
  go_wp2_with fail
  refine (Print_c _ _ us H.out HL.out).mono ?_
  rw [HR.out]
  rintro e w1 ⟨rfl, hb1⟩
  have HB1 := Lib.hid hb1
  have H1 := Lib.hid (H.out.after hb1)
  clear hb1
  go_wp2_with fail
  refine (rPrint_c _ _ us H1.out).mono ?_
  rw [HR.out]
  rintro e w2 ⟨rfl, hb2⟩
  have HB2 := Lib.hid (HB1.out.trans (hb2.mono HB1.out.size))
  clear hb2
  go_wp2_with fail
  refine (awake_c _).mono ?_
  rintro e w4 ⟨rfl, hb4⟩
  have HB4 := Lib.hid (HB2.out.trans (hb4.mono HB2.out.size))
  clear hb4
  go_wp2_with fail
  go_ret
  exact ⟨rfl, HB4.out⟩
set_option maxRecDepth 100000 in
set_option maxHeartbeats 4000000 in
theorem lexisRound_w (w : World) (l : List UInt8) (hl : l.length ≤ 9223372036854775807) : Calls Tryd.prog 5 #[.string (bs l)] w fun e w' => e = .returned (.bool true) ∧ Below w.heap.size w w' := by
  have hs : (bs l).size = l.length := bs_size l
  have herr := toks_err (l := l)
  have hri := toks_right (l := l)
  have hln := toks_len l
  obtain ⟨⟨ts, at_, er⟩, hR⟩ : ∃ R, toksF l = R := ⟨_, rfl⟩
  rw [hR] at herr hri hln
  have HR := Lib.hid hR
  simp only at herr hri hln
  by_cases he : er = 0
  · subst he
    have hri := hri rfl
    have HRI := Lib.hid hri
    have HLN : Hid (ts.length ≤ 1000000) := Nat.le_trans hln (by omega)
    rcases print_right hri with hp | ⟨hp, hpl⟩
    · have HP := Lib.hid hp
      have q3 := list_ba []
      clear hR herr hri hln hp
      go_enter Tryd.func5, Tryd.ntmps5
      go_wp2_with fail
      refine (Tokens_c _ l hl).mono ?_
      rw [HR.out]
      rintro e w1 ⟨v, rfl, hv, hb1⟩
      have HV := Lib.hid hv
      have HB1 := Lib.hid hb1
      clear hv hb1
      go_wp2_with fail
      refine (Print_c _ _ ts HV.out HLN.out).mono ?_
      rw [HP.out]
      rintro e w2 ⟨rfl, hb2⟩
      have HB2 := Lib.hid (HB1.out.trans (hb2.mono HB1.out.size))
      clear hb2
      go_wp2_with fail
      refine (awake_c _).mono ?_
      rintro e w4 ⟨rfl, hb4⟩
      have HB4 := Lib.hid (HB2.out.trans (hb4.mono HB2.out.size))
      clear hb4
      go_wp2_with fail
      go_ret
      exact ⟨rfl, HB4.out⟩
    · obtain ⟨us, hus, hbare⟩ := round_back hri hpl
      obtain ⟨y, hy⟩ : ∃ y, joinL [32] (ts.map Tok.text) = y := ⟨_, rfl⟩
      rw [hy] at hp hpl hus
      have HP := Lib.hid hp
      have HUS := Lib.hid hus
      have HBARE := Lib.hid hbare
      clear hR herr hri hln hp hy hus hbare
      go_enter Tryd.func5, Tryd.ntmps5
      go_wp2_with fail
      refine (Tokens_c _ l hl).mono ?_
      rw [HR.out]
      rintro e w1 ⟨v, rfl, hv, hb1⟩
      have HV := Lib.hid hv
      have HB1 := Lib.hid hb1
      clear hv hb1
      go_wp2_with fail
      refine (Print_c _ _ ts HV.out HLN.out).mono ?_
      rw [HP.out]
      rintro e w2 ⟨rfl, hb2⟩
      have HB2 := Lib.hid (HB1.out.trans (hb2.mono HB1.out.size))
      have HV2 := Lib.hid (HV.out.after hb2)
      clear hb2
      go_wp2_with fail
      refine (Tokens_c _ y (by omega)).mono ?_
      rw [HUS.out]
      rintro e w3 ⟨u, rfl, hu, hb3⟩
      have HU := Lib.hid hu
      have HV3 := Lib.hid (HV2.out.after hb3)
      have HB3 := Lib.hid (HB2.out.trans (hb3.mono HB2.out.size))
      clear hu hb3
      go_wp2_with fail
      refine (same_yes _ _ _ ts us HV3.out HU.out HBARE.out).mono ?_
      rintro e w4 ⟨rfl, hb4⟩
      have HB4 := Lib.hid (HB3.out.trans (hb4.mono HB3.out.size))
      clear hb4
      go_wp2_with fail
      refine (awake_c _).mono ?_
      rintro e w5 ⟨rfl, hb5⟩
      have HB5 := Lib.hid (HB4.out.trans (hb5.mono HB4.out.size))
      clear hb5
      go_wp2_with fail
      go_ret
      exact ⟨rfl, HB5.out⟩
  · obtain ⟨rfl, e1, e2⟩ := herr he
    have he' : ((er : Int) != 0) = true := by simp; omega
    have h3 : at_ ≤ max (l.length : Int) 4096 := by omega
    clear hR herr hri hln he
    go_enter Tryd.func5, Tryd.ntmps5
    go_wp2_with fail
    refine (Tokens_c _ l hl).mono ?_
    rw [HR.out]
    rintro e w1 ⟨v, rfl, hv, hb1⟩
    obtain ⟨a, c, rfl, _⟩ := hv.shape
    have HB1 := Lib.hid hb1
    clear hv hb1
    go_wp2_with fail
    refine (awake_c _).mono ?_
    rintro e w5 ⟨rfl, hb5⟩
    have HB5 := Lib.hid (HB1.out.trans (hb5.mono HB1.out.size))
    clear hb5
    go_wp2_with fail
    go_ret
    exact ⟨rfl, HB5.out⟩
end Go.Proofs.YtnifndolopnbfaaDoor
