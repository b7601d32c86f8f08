/- Walks of the statements about layer 2: SyntaxStable. -/
import Derived.Test.YtganlldidjbpiaaGreatDoorQSyL3
set_option linter.unusedVariables false
namespace Go.Proofs.YtganlldidjbpiaaGreatDoor
open Go.RowKit Go.Shelf

set_option maxRecDepth 100000 in
set_option maxHeartbeats 4000000 in
theorem stable_quick (N : Nat) (w : World) (a b : List UInt8) (hl : a.length ≤ 9223372036854775807) (hl2 : b.length ≤ 9223372036854775807) (h : (toksF a).2.2 ≠ 0 ∨ (toksF b).2.2 ≠ 0 ∨ (parseF a).2.2 = 0 ∨ (a.length : Int) ≤ (parseF a).2.1) (hN : N ≤ w.heap.size) (he : Wds N w) (ht : Tab10 w) : Calls Tryz.prog 7 #[.string (bs a), .string (bs b)] w (RetB w true) := by
  have hsa : (bs a).size = a.length := bs_size a
  have hsb : (bs b).size = b.length := bs_size b
  have HE := Lib.hid he
  have HT := Lib.hid ht
  clear he ht
  obtain ⟨⟨u, o1, e⟩, hA⟩ : ∃ R, toksF a = R := ⟨_, rfl⟩
  obtain ⟨⟨v, o2, f⟩, hB⟩ : ∃ R, toksF b = R := ⟨_, rfl⟩
  obtain ⟨⟨cs, at_, g⟩, hC⟩ : ∃ R, parseF a = R := ⟨_, rfl⟩
  have HA := Lib.hid hA
  have HB := Lib.hid hB
  have HC := Lib.hid hC
  rw [hA, hB, hC] at h
  simp only at h
  by_cases c1 : e = 0
  · have q1 : ((e : Int) != 0) = false := by simp; omega
    by_cases c2 : f = 0
    · have q2 : ((f : Int) != 0) = false := by simp; omega
      by_cases c3 : g = 0
      · have q3 : ((g : Int) == 0) = true := by simp; omega
        clear c1 c2 c3
        clear hA hB hC h
        go_enter Tryz.func7, Tryz.ntmps7
        go_wp2_with fail
        refine (rTokens_c _ a hl).mono ?_
        rw [HA.out]
        rintro e w1 ⟨vt, rfl, hv, hb⟩
        have HB1 := Lib.hid (hb)
        have hN1 : N ≤ w1.heap.size := Nat.le_trans hN hb.size
        have HE1 := Lib.hid (HE.out.after hb)
        have HT1 := Lib.hid (HT.out.after hb)
        have VT := Lib.hid hv
        obtain ⟨sa1, sc1, rfl, k1, kk1, _⟩ := hv.shape
        clear hv hb
        go_wp2_with fail
        refine (rTokens_c _ b hl2).mono ?_
        rw [HB.out]
        rintro e w2 ⟨vu, rfl, hv, hb⟩
        have HB2 := Lib.hid (HB1.out.trans (hb.mono HB1.out.size))
        have hN2 : N ≤ w2.heap.size := Nat.le_trans hN1 hb.size
        have HE2 := Lib.hid (HE1.out.after hb)
        have HT2 := Lib.hid (HT1.out.after hb)
        replace VT := Lib.hid (VT.out.after hb)
        have VU := Lib.hid hv
        obtain ⟨sa2, sc2, rfl, k2, kk2, _⟩ := hv.shape
        clear hv hb
        go_wp2_with fail
        refine (Parse_c N _ a hl hN2 HE2.out).mono ?_
        rw [HC.out]
        rintro e w3 ⟨vc, rfl, hv, hb⟩
        have HB3 := Lib.hid (HB2.out.trans (hb.mono HB2.out.size))
        have hN3 : N ≤ w3.heap.size := Nat.le_trans hN2 hb.size
        have HE3 := Lib.hid (HE2.out.after hb)
        have HT3 := Lib.hid (HT2.out.after hb)
        replace VT := Lib.hid (VT.out.after hb)
        replace VU := Lib.hid (VU.out.after hb)
        have VC := Lib.hid hv
        obtain ⟨sa3, sc3, rfl, k3, kk3, _⟩ := hv.shape
        clear hv hb
        go_wp2_with fail
        refine (sawake_c N _ hN3 HE3.out HT3.out).mono ?_
        rintro e w4 ⟨rfl, hb⟩
        have HB4 := Lib.hid (HB3.out.trans (hb.mono HB3.out.size))
        clear hb
        go_wp2_with fail
        go_ret
        exact ⟨rfl, HB4.out⟩
      · have q3 : ((g : Int) == 0) = false := by simp; omega
        have hat : (a.length : Int) ≤ at_ := by rcases h with h | h | h | h; all_goals first | exact h | exact absurd ‹_› h | exact absurd h ‹_›
        have q4 : decide ((a.length : Int) ≤ at_) = true := decide_eq_true hat
        clear c1 c2 c3
        clear hA hB hC h
        go_enter Tryz.func7, Tryz.ntmps7
        go_wp2_with fail
        refine (rTokens_c _ a hl).mono ?_
        rw [HA.out]
        rintro e w1 ⟨vt, rfl, hv, hb⟩
        have HB1 := Lib.hid (hb)
        have hN1 : N ≤ w1.heap.size := Nat.le_trans hN hb.size
        have HE1 := Lib.hid (HE.out.after hb)
        have HT1 := Lib.hid (HT.out.after hb)
        have VT := Lib.hid hv
        obtain ⟨sa1, sc1, rfl, k1, kk1, _⟩ := hv.shape
        clear hv hb
        go_wp2_with fail
        refine (rTokens_c _ b hl2).mono ?_
        rw [HB.out]
        rintro e w2 ⟨vu, rfl, hv, hb⟩
        have HB2 := Lib.hid (HB1.out.trans (hb.mono HB1.out.size))
        have hN2 : N ≤ w2.heap.size := Nat.le_trans hN1 hb.size
        have HE2 := Lib.hid (HE1.out.after hb)
        have HT2 := Lib.hid (HT1.out.after hb)
        replace VT := Lib.hid (VT.out.after hb)
        have VU := Lib.hid hv
        obtain ⟨sa2, sc2, rfl, k2, kk2, _⟩ := hv.shape
        clear hv hb
        go_wp2_with fail
        refine (Parse_c N _ a hl hN2 HE2.out).mono ?_
        rw [HC.out]
        rintro e w3 ⟨vc, rfl, hv, hb⟩
        have HB3 := Lib.hid (HB2.out.trans (hb.mono HB2.out.size))
        have hN3 : N ≤ w3.heap.size := Nat.le_trans hN2 hb.size
        have HE3 := Lib.hid (HE2.out.after hb)
        have HT3 := Lib.hid (HT2.out.after hb)
        replace VT := Lib.hid (VT.out.after hb)
        replace VU := Lib.hid (VU.out.after hb)
        have VC := Lib.hid hv
        obtain ⟨sa3, sc3, rfl, k3, kk3, _⟩ := hv.shape
        clear hv hb
        go_wp2_with fail
        refine (sawake_c N _ hN3 HE3.out HT3.out).mono ?_
        rintro e w4 ⟨rfl, hb⟩
        have HB4 := Lib.hid (HB3.out.trans (hb.mono HB3.out.size))
        clear hb
        go_wp2_with fail
        go_ret
        exact ⟨rfl, HB4.out⟩
    · have q2 : ((f : Int) != 0) = true := by simp; omega
      clear c1 c2
      clear hA hB hC h
      go_enter Tryz.func7, Tryz.ntmps7
      go_wp2_with fail
      refine (rTokens_c _ a hl).mono ?_
      rw [HA.out]
      rintro e w1 ⟨vt, rfl, hv, hb⟩
      have HB1 := Lib.hid (hb)
      have hN1 : N ≤ w1.heap.size := Nat.le_trans hN hb.size
      have HE1 := Lib.hid (HE.out.after hb)
      have HT1 := Lib.hid (HT.out.after hb)
      have VT := Lib.hid hv
      obtain ⟨sa1, sc1, rfl, k1, kk1, _⟩ := hv.shape
      clear hv hb
      go_wp2_with fail
      refine (rTokens_c _ b hl2).mono ?_
      rw [HB.out]
      rintro e w2 ⟨vu, rfl, hv, hb⟩
      have HB2 := Lib.hid (HB1.out.trans (hb.mono HB1.out.size))
      have hN2 : N ≤ w2.heap.size := Nat.le_trans hN1 hb.size
      have HE2 := Lib.hid (HE1.out.after hb)
      have HT2 := Lib.hid (HT1.out.after hb)
      replace VT := Lib.hid (VT.out.after hb)
      have VU := Lib.hid hv
      obtain ⟨sa2, sc2, rfl, k2, kk2, _⟩ := hv.shape
      clear hv hb
      go_wp2_with fail
      refine (Parse_c N _ a hl hN2 HE2.out).mono ?_
      rw [HC.out]
      rintro e w3 ⟨vc, rfl, hv, hb⟩
      have HB3 := Lib.hid (HB2.out.trans (hb.mono HB2.out.size))
      have hN3 : N ≤ w3.heap.size := Nat.le_trans hN2 hb.size
      have HE3 := Lib.hid (HE2.out.after hb)
      have HT3 := Lib.hid (HT2.out.after hb)
      replace VT := Lib.hid (VT.out.after hb)
      replace VU := Lib.hid (VU.out.after hb)
      have VC := Lib.hid hv
      obtain ⟨sa3, sc3, rfl, k3, kk3, _⟩ := hv.shape
      clear hv hb
      go_wp2_with fail
      refine (sawake_c N _ hN3 HE3.out HT3.out).mono ?_
      rintro e w4 ⟨rfl, hb⟩
      have HB4 := Lib.hid (HB3.out.trans (hb.mono HB3.out.size))
      clear hb
      go_wp2_with fail
      go_ret
      exact ⟨rfl, HB4.out⟩
  · have q1 : ((e : Int) != 0) = true := by simp; omega
    clear c1
    clear hA hB hC h
    go_enter Tryz.func7, Tryz.ntmps7
    go_wp2_with fail
    refine (rTokens_c _ a hl).mono ?_
    rw [HA.out]
    rintro e w1 ⟨vt, rfl, hv, hb⟩
    have HB1 := Lib.hid (hb)
    have hN1 : N ≤ w1.heap.size := Nat.le_trans hN hb.size
    have HE1 := Lib.hid (HE.out.after hb)
    have HT1 := Lib.hid (HT.out.after hb)
    have VT := Lib.hid hv
    obtain ⟨sa1, sc1, rfl, k1, kk1, _⟩ := hv.shape
    clear hv hb
    go_wp2_with fail
    refine (rTokens_c _ b hl2).mono ?_
    rw [HB.out]
    rintro e w2 ⟨vu, rfl, hv, hb⟩
    have HB2 := Lib.hid (HB1.out.trans (hb.mono HB1.out.size))
    have hN2 : N ≤ w2.heap.size := Nat.le_trans hN1 hb.size
    have HE2 := Lib.hid (HE1.out.after hb)
    have HT2 := Lib.hid (HT1.out.after hb)
    replace VT := Lib.hid (VT.out.after hb)
    have VU := Lib.hid hv
    obtain ⟨sa2, sc2, rfl, k2, kk2, _⟩ := hv.shape
    clear hv hb
    go_wp2_with fail
    refine (Parse_c N _ a hl hN2 HE2.out).mono ?_
    rw [HC.out]
    rintro e w3 ⟨vc, rfl, hv, hb⟩
    have HB3 := Lib.hid (HB2.out.trans (hb.mono HB2.out.size))
    have hN3 : N ≤ w3.heap.size := Nat.le_trans hN2 hb.size
    have HE3 := Lib.hid (HE2.out.after hb)
    have HT3 := Lib.hid (HT2.out.after hb)
    replace VT := Lib.hid (VT.out.after hb)
    replace VU := Lib.hid (VU.out.after hb)
    have VC := Lib.hid hv
    obtain ⟨sa3, sc3, rfl, k3, kk3, _⟩ := hv.shape
    clear hv hb
    go_wp2_with fail
    refine (sawake_c N _ hN3 HE3.out HT3.out).mono ?_
    rintro e w4 ⟨rfl, hb⟩
    have HB4 := Lib.hid (HB3.out.trans (hb.mono HB3.out.size))
    clear hb
    go_wp2_with fail
    go_ret
    exact ⟨rfl, HB4.out⟩
set_option maxRecDepth 100000 in
set_option maxHeartbeats 4000000 in
theorem stable_main (N : Nat) (w : World) (a b : List UInt8) (hl : a.length ≤ 9223372036854775807) (hl2 : b.length ≤ 9223372036854775807) (he1 : (toksF a).2.2 = 0) (he2 : (toksF b).2.2 = 0) (he3 : (parseF a).2.2 ≠ 0) (hat : (parseF a).2.1 < a.length) (hN : N ≤ w.heap.size) (he : Wds N w) (ht : Tab10 w) : Calls Tryz.prog 7 #[.string (bs a), .string (bs b)] w (RetB w true) := by
  have hsa : (bs a).size = a.length := bs_size a
  have hsb : (bs b).size = b.length := bs_size b
  have HE := Lib.hid he
  have HT := Lib.hid ht
  clear he ht
  have halen := (toks_good he1).1
  have hblen := (toks_good he2).1
  obtain ⟨⟨u, o1, e⟩, hA⟩ : ∃ R, toksF a = R := ⟨_, rfl⟩
  obtain ⟨⟨v, o2, f⟩, hB⟩ : ∃ R, toksF b = R := ⟨_, rfl⟩
  obtain ⟨⟨cs, at_, g⟩, hC⟩ : ∃ R, parseF a = R := ⟨_, rfl⟩
  have HA := Lib.hid hA
  have HB := Lib.hid hB
  have HC := Lib.hid hC
  rw [hA] at he1
  rw [hB] at he2
  rw [hC] at he3 hat
  simp only at he1 he2 he3 hat
  subst he1 he2
  obtain ⟨rfl, ho1⟩ : o1 = 0 ∧ True := ⟨by have := (toks_good (l := a) (by rw [hA])).2.2; rw [hA] at this; injection this with _ this; injection this, trivial⟩
  obtain ⟨rfl, _⟩ : o2 = 0 ∧ True := ⟨by have := (toks_good (l := b) (by rw [hB])).2.2; rw [hB] at this; injection this with _ this; injection this, trivial⟩
  obtain ⟨w0, t, r, n, hu, htoff, hn, hsum, huniq, hlast⟩ := stable hA hB hC he3 hat
  have hpos : 0 < u.length := by rw [hu]; simp; omega
  have hmem : ∃ j, j < u.length ∧ (tok u j).off = at_ := ⟨w0.length, by rw [hu]; simp, by rw [hu]; unfold tok; rw [List.getD_eq_getElem?_getD, List.getElem?_append_right (Nat.le_refl _)]; simpa using htoff⟩
  have huq : ∀ j, j < u.length → (tok u j).off = at_ → (tok u j).text = t.text := fun j hj h => by rw [huniq _ (by unfold tok; rw [List.getD_eq_getElem?_getD, List.getElem?_eq_getElem hj]; exact List.getElem_mem hj) h]
  have hb0 := (parse_bounds hC he3).2.1
  have q1 : ((0 : Int) != 0) = false := rfl
  have q3 : ((g : Int) == 0) = false := by simp; omega
  have q4 : decide ((a.length : Int) ≤ at_) = false := decide_eq_false (by omega)
  have q4b : ¬ (a.length : Int) ≤ at_ := by omega
  have q5 : ((g : Int) == (g : Int)) = true := by simp
  have q6 : (at_ == at_) = true := by simp
  have HME := Lib.hid hmem
  have HUQ := Lib.hid huq
  obtain ⟨L, hL⟩ : ∃ L, t.text.length = L := ⟨_, rfl⟩
  rw [hL] at hsum
  have HL := Lib.hid hL
  have HLAST := Lib.hid hlast
  clear hA hB hC hu htoff huniq hmem huq hL hlast he3 hat ho1
  go_enter Tryz.func7, Tryz.ntmps7
  go_wp2_with fail
  refine (rTokens_c _ a hl).mono ?_
  rw [HA.out]
  rintro e w1 ⟨vt, rfl, hv, hb⟩
  have HB1 := Lib.hid (hb)
  have hN1 : N ≤ w1.heap.size := Nat.le_trans hN hb.size
  have HE1 := Lib.hid (HE.out.after hb)
  have HT1 := Lib.hid (HT.out.after hb)
  have VT := Lib.hid hv
  obtain ⟨sa1, sc1, rfl, k1, kk1, _⟩ := hv.shape
  clear hv hb
  go_wp2_with fail
  refine (rTokens_c _ b hl2).mono ?_
  rw [HB.out]
  rintro e w2 ⟨vu, rfl, hv, hb⟩
  have HB2 := Lib.hid (HB1.out.trans (hb.mono HB1.out.size))
  have hN2 : N ≤ w2.heap.size := Nat.le_trans hN1 hb.size
  have HE2 := Lib.hid (HE1.out.after hb)
  have HT2 := Lib.hid (HT1.out.after hb)
  replace VT := Lib.hid (VT.out.after hb)
  have VU := Lib.hid hv
  obtain ⟨sa2, sc2, rfl, k2, kk2, _⟩ := hv.shape
  clear hv hb
  go_wp2_with fail
  refine (Parse_c N _ a hl hN2 HE2.out).mono ?_
  rw [HC.out]
  rintro e w3 ⟨vc, rfl, hv, hb⟩
  have HB3 := Lib.hid (HB2.out.trans (hb.mono HB2.out.size))
  have hN3 : N ≤ w3.heap.size := Nat.le_trans hN2 hb.size
  have HE3 := Lib.hid (HE2.out.after hb)
  have HT3 := Lib.hid (HT2.out.after hb)
  replace VT := Lib.hid (VT.out.after hb)
  replace VU := Lib.hid (VU.out.after hb)
  have VC := Lib.hid hv
  obtain ⟨sa3, sc3, rfl, k3, kk3, _⟩ := hv.shape
  clear hv hb
  go_wp2_with fail
  go_loopg [14, 15] u.length (fun gn te ti wx => ∃ (i : Nat) (z : Int), i ≤ u.length ∧ gn = u.length - i ∧ ti = .int .i64 (i : Int) ∧ te = .int .i64 z ∧ Hid ((z = (n : Int) ∧ ∃ j, j < i ∧ (tok u j).off = at_) ∨ (z = -1 ∧ ∀ j, j < i → (tok u j).off ≠ at_)) ∧ Hid (Below w3.heap.size w3 wx))
  case atStart => exact ⟨0, -1, Nat.zero_le _, rfl, rfl, rfl, .inr ⟨rfl, fun j hj => absurd hj (by omega)⟩, Below.refl _ _⟩
  case round =>
    obtain ⟨i, z, hi, rfl, rfl, rfl, hz, hbl⟩ := hrel
    by_cases hlt : i < u.length
    · obtain ⟨bt, ot, ct, et, _, _, lt, hct⟩ := (VT.out.after hbl.out).at_ (by omega)
      injection et with et _ ec
      subst et ec
      obtain ⟨x0, x1, x2, x3⟩ := hct i hlt
      have hUQ := HUQ.out i hlt
      obtain ⟨x, hx⟩ : ∃ x, tok u i = x := ⟨_, rfl⟩
      rw [hx] at x0 x1 x2 x3 hUQ
      have HX := Lib.hid hx
      have il : (i : Int) < (u.length : Int) := by omega
      have il0 : (0 : Int) ≤ (i : Int) := by omega
      clear hct hx
      by_cases hxo : x.off = at_
      · have q7 : (x.off == at_) = true := by simp; omega
        have hxl : x.text.length = L := by rw [hUQ hxo]; exact HL.out
        have hxs : (bs x.text).size = x.text.length := bs_size _
        have z1 : at_ + (x.text.length : Int) ≤ 9223372036854775807 := by omega
        have z2 : -9223372036854775808 ≤ at_ + (x.text.length : Int) := by omega
        have HXO := Lib.hid hxo
        have HXL := Lib.hid hxl
        clear hxo hUQ hxl
        go_wp2_with fail
        go_roundg (u.length - (i + 1))
        case measure => omega
        case rel => exact ⟨i + 1, at_ + (x.text.length : Int), by omega, rfl, by go_num, rfl, .inl ⟨by have := HXL.out; omega, i, by omega, by rw [HX.out]; exact HXO.out⟩, hbl.out⟩
      · have q7 : (x.off == at_) = false := by simp; omega
        have HXO := Lib.hid hxo
        clear hxo hUQ
        go_wp2_with fail
        go_roundg (u.length - (i + 1))
        case measure => omega
        case rel =>
          refine ⟨i + 1, z, by omega, rfl, by go_num, rfl, ?_, hbl.out⟩
          rcases hz.out with ⟨h1, j, hj, h2⟩ | ⟨h1, h2⟩
          · exact .inl ⟨h1, j, by omega, h2⟩
          · refine .inr ⟨h1, fun j hj => ?_⟩
            rcases Nat.lt_or_ge j i with h | h
            · exact h2 j h
            · obtain rfl : j = i := by omega
              rw [HX.out]; exact HXO.out
    · obtain rfl : i = u.length := by omega
      have hzn : z = (n : Int) := by
        rcases hz.out with ⟨h1, _⟩ | ⟨_, h2⟩
        · exact h1
        · obtain ⟨j, hj, h⟩ := HME.out
          exact absurd h (h2 j hj)
      subst hzn
      have hN4 := Nat.le_trans hN3 hbl.out.size
      have HE4 := Lib.hid (HE3.out.after hbl.out)
      have HT4 := Lib.hid (HT3.out.after hbl.out)
      have HB4 := Lib.hid (HB3.out.trans (hbl.out.mono HB3.out.size))
      obtain ⟨c0, hc0⟩ : ∃ r, a.take n = r := ⟨_, rfl⟩
      obtain ⟨c1, hc1⟩ : ∃ r, c0 ++ [10] = r := ⟨_, rfl⟩
      obtain ⟨c2, hc2⟩ : ∃ r, c1 ++ b = r := ⟨_, rfl⟩
      have hcat : a.take n ++ 10 :: b = c2 := by rw [← hc2, ← hc1, ← hc0]; simp
      have hlast := HLAST.out
      rw [hcat] at hlast
      have hext : (bs a).extract 0 n = bs c0 := by rw [← hc0]; exact extract_front a n
      have e1 : bs c0 ++ (⟨#[10]⟩ : ByteArray) = bs c1 := (append_bs c0 [10]).trans (congrArg bs hc1)
      have e2 : bs c1 ++ bs b = bs c2 := (append_bs c1 b).trans (congrArg bs hc2)
      have s0 : (bs c0).size = c0.length := bs_size c0
      have s1 : (bs c1).size = c1.length := bs_size c1
      have s2 : (bs c2).size = c2.length := bs_size c2
      have hnn : (n : Int) ≤ (a.length : Int) := by omega
      have hn0 : (0 : Int) ≤ (n : Int) := by omega
      have l0 : c0.length ≤ 4096 := by rw [← hc0, List.length_take]; omega
      have l1 : c1.length ≤ 4097 := by rw [← hc1]; simp; omega
      have hl4 : c2.length ≤ 4096 + 1 + b.length := by rw [← hc2]; simp; omega
      have hbl4 := hblen
      clear hc0 hc1 hc2 hcat hz
      by_cases hbig : 4096 < c2.length
      · have q8 : decide (4096 < (c2.length : Int)) = true := decide_eq_true (by omega)
        have q9 : (4096 : Int) < (c2.length : Int) := by omega
        clear hlast hbig
        go_wp2_with fail
        refine (sawake_c N _ hN4 HE4.out HT4.out).mono ?_
        rintro e w5 ⟨rfl, hb⟩
        have HB5 := Lib.hid (HB4.out.trans (hb.mono HB4.out.size))
        clear hb
        go_wp2_with fail
        go_ret
        exact ⟨rfl, HB5.out⟩
      · have q8 : decide (4096 < (c2.length : Int)) = false := decide_eq_false (by omega)
        have q9 : ¬ (4096 : Int) < (c2.length : Int) := by omega
        have HP := Lib.hid (hlast hbig)
        have hl5 : c2.length ≤ 9223372036854775807 := by omega
        clear hlast hbig
        go_wp2_with fail
        refine (Parse_c N _ c2 hl5 hN4 HE4.out).mono ?_
        rw [HP.out]
        rintro e w5 ⟨vd, rfl, hv, hb⟩
        have HB5 := Lib.hid (HB4.out.trans (hb.mono HB4.out.size))
        have hN5 : N ≤ w5.heap.size := Nat.le_trans hN4 hb.size
        have HE5 := Lib.hid (HE4.out.after hb)
        have HT5 := Lib.hid (HT4.out.after hb)
        have VD := Lib.hid hv
        obtain ⟨sa5, sc5, rfl, k5, kk5, _⟩ := hv.shape
        clear hv hb
        go_wp2_with fail
        refine (sawake_c N _ hN5 HE5.out HT5.out).mono ?_
        rintro e w6 ⟨rfl, hb⟩
        have HB6 := Lib.hid (HB5.out.trans (hb.mono HB5.out.size))
        clear hb
        go_wp2_with fail
        go_ret
        exact ⟨rfl, HB6.out⟩
theorem syntaxStable_w (N : Nat) (w : World) (a b : List UInt8) (hl : a.length ≤ 9223372036854775807) (hl2 : b.length ≤ 9223372036854775807) (hN : N ≤ w.heap.size) (he : Wds N w) (ht : Tab10 w) : Calls Tryz.prog 7 #[.string (bs a), .string (bs b)] w (RetB w true) := by
  by_cases h : (toksF a).2.2 ≠ 0 ∨ (toksF b).2.2 ≠ 0 ∨ (parseF a).2.2 = 0 ∨ (a.length : Int) ≤ (parseF a).2.1
  · exact stable_quick N w a b hl hl2 h hN he ht
  · have h1 : (toksF a).2.2 = 0 := Decidable.byContradiction fun e => h (.inl e)
    have h2 : (toksF b).2.2 = 0 := Decidable.byContradiction fun e => h (.inr (.inl e))
    exact stable_main N w a b hl hl2 h1 h2 (fun e => h (.inr (.inr (.inl e)))) (by have : ¬ (a.length : Int) ≤ (parseF a).2.1 := fun e => h (.inr (.inr (.inr e))); omega) hN he ht
end Go.Proofs.YtganlldidjbpiaaGreatDoor
