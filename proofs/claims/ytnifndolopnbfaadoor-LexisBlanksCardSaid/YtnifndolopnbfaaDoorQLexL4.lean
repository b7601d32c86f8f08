/- Walk of a statement about layer 1: LexisBlanks. -/
import Derived.Test.YtnifndolopnbfaaDoorK07
set_option linter.unusedVariables false
namespace Go.Proofs.YtnifndolopnbfaaDoor
open Go.RowKit

theorem flat_next (y : List UInt8) (k : Nat) (h : k < y.length) : (y.take (k + 1)).flatMap widen = (y.take k).flatMap widen ++ widen y[k] := by
  rw [List.take_succ_eq_append_getElem h, List.flatMap_append]; simp
theorem flat_len (y : List UInt8) (k : Nat) : ((y.take k).flatMap widen).length ≤ 3 * k := by
  have h1 := widen_len (y.take k)
  have h2 : (y.take k).length ≤ k := by rw [List.length_take]; omega
  omega
/-- The widened text is read as the same tokens. -/
theorem wide_back {remark y : List UInt8} {ts : List Tok} (hr : ∀ c ∈ remark, c.toNat ≠ 10) (h : ∀ t ∈ ts, rightT t) (hy : joinL [32] (ts.map Tok.text) = y) (hyl : y.length ≤ 1000) (hrl : remark.length ≤ 100) :
    ∃ us, toksF ((9 :: 35 :: (remark ++ [10])) ++ y.flatMap widen ++ [32, 35] ++ remark) = (us, 0, 0) ∧ ts.map bare = us.map bare := by
  have e : (9 :: 35 :: (remark ++ [10])) ++ y.flatMap widen ++ [32, 35] ++ remark = 9 :: 35 :: (remark ++ 10 :: (y.flatMap widen ++ 32 :: 35 :: remark)) := by simp
  have hw := wide_items remark hr ts h
  rw [hy] at hw
  rw [e]
  refine toks_of_items ?_ hw
  have := widen_len y
  simp only [List.length_cons, List.length_append]
  omega
theorem app_lit (a b : List UInt8) : bs a ++ (⟨b.toArray⟩ : ByteArray) = bs (a ++ b) := append_bs a b
set_option maxRecDepth 100000 in
set_option maxHeartbeats 4000000 in
theorem lexisBlanks_w (w : World) (s remark : List UInt8) (hl : s.length ≤ 9223372036854775807) (hrl0 : remark.length ≤ 9223372036854775807) : Calls Tryd.prog 7 #[.string (bs s), .string (bs remark)] w fun e w' => e = .returned (.bool true) ∧ Below w.heap.size w w' := by
  have hs : (bs s).size = s.length := bs_size s
  have hsr : (bs remark).size = remark.length := bs_size remark
  have hri := toks_right (l := s)
  have hln := toks_len s
  obtain ⟨⟨ts, at_, er⟩, hR⟩ : ∃ R, toksF s = R := ⟨_, rfl⟩
  rw [hR] at hri hln
  have HR := Lib.hid hR
  simp only at hri hln
  have HLN : Hid (ts.length ≤ 1000000) := Nat.le_trans hln (by omega)
  obtain ⟨⟨y, ef⟩, hP⟩ : ∃ R, printF ts = R := ⟨_, rfl⟩
  have HP := Lib.hid hP
  have hsy : (bs y).size = y.length := bs_size y
  have hyl0 : y.length ≤ 4096 := by
    have hpl : (printF ts).1.length ≤ 4096 := by
      by_cases hr : ∀ t ∈ ts, rightT t
      · rcases print_right hr with h | ⟨h, h2⟩
        · rw [h]; simp
        · rw [h]; exact h2
      · unfold printF; rw [if_neg hr]; simp
    rw [hP] at hpl; exact hpl
  by_cases he : er = 0
  · subst he
    by_cases hf : ef = 0
    · subst hf
      by_cases hy : y.length ≤ 1000
      · by_cases hrl : remark.length ≤ 100
        · have hright := hri rfl
          have hjoin : joinL [32] (ts.map Tok.text) = y := by
            rcases print_right hright with h | ⟨h, _⟩
            · rw [hP] at h; simp at h
            · rw [hP] at h; simp at h; exact h.symm
          have HRI := Lib.hid hright
          have HJ := Lib.hid hjoin
          clear hR hri hln hP hright hjoin
          go_enter Tryd.func7, Tryd.ntmps7
          go_wp2_with fail
          refine (Tokens_c _ s hl).mono ?_
          rw [HR.out]
          rintro e w1 ⟨v, rfl, hv, hb1⟩
          obtain ⟨a, c, rfl, _⟩ := hv.shape
          have HV := Lib.hid hv
          have HB1 := Lib.hid hb1
          clear hv hb1
          go_wp2_with fail
          refine (Print_c _ _ ts HV.out HLN.out).mono ?_
          rw [HP.out]
          rintro e w2 ⟨rfl, hb2⟩
          have HB2 := Lib.hid (HB1.out.trans (hb2.mono HB1.out.size))
          have HV2 := Lib.hid (HV.out.after hb2)
          clear hb2 HV HB1
          go_wp2_with fail
          go_loopw [10] (fun t wx => ∃ k : Nat, k ≤ remark.length ∧ t = .int .i64 (k : Int) ∧ Hid (∀ j (h : j < remark.length), j < k → remark[j].toNat ≠ 10) ∧ Hid (wx = w2)) (fun t _ => remark.length - (intOf t).toNat)
          case atStart => exact ⟨0, Nat.zero_le _, rfl, fun j _ h => by omega, rfl⟩
          case round =>
            obtain ⟨k, hk, rfl, hno, hw⟩ := hrel
            obtain rfl := hw.out
            clear hw
            by_cases hlt : k < remark.length
            · obtain ⟨q, hcq⟩ : ∃ q, ((bs remark)[k]'hlt).toNat = q := ⟨_, rfl⟩
              have hcq' : remark[k].toNat = q := hcq
              by_cases h10 : q = 10
              · subst h10
                clear hno hcq'
                go_wp2_with fail
                refine (awake_c _).mono ?_
                rintro e w5 ⟨rfl, hb5⟩
                have HB5 := Lib.hid (HB2.out.trans (hb5.mono HB2.out.size))
                clear hb5
                go_wp2_with fail
                go_ret
                exact ⟨rfl, HB5.out⟩
              · have HNX : Hid (∀ j (h : j < remark.length), j < k + 1 → remark[j].toNat ≠ 10) := by
                  intro j h hj
                  rcases Nat.lt_or_ge j k with h1 | h1
                  · exact hno.out j h h1
                  · obtain rfl : j = k := by omega
                    rw [hcq']; exact h10
                have hne : ((q : Int) == 10) = false := by simp; omega
                clear hno hcq' h10
                go_wp2_with fail
                go_roundw
                case rel => exact ⟨k + 1, by omega, by go_num, HNX.out, trivial⟩
                case measure => simp [intOf]; omega
            · obtain rfl : k = remark.length := by omega
              have hno' : ∀ c ∈ remark, c.toNat ≠ 10 := fun c hc => by
                obtain ⟨j, hj, rfl⟩ := List.getElem_of_mem hc
                exact hno.out j hj hj
              obtain ⟨us, hus, hbare⟩ := wide_back hno' HRI.out HJ.out hy hrl
              have HUS := Lib.hid hus
              have HBARE := Lib.hid hbare
              obtain ⟨r1, hr1⟩ : ∃ r, [9, 35] ++ remark = r := ⟨_, rfl⟩
              obtain ⟨r2, hr2⟩ : ∃ r, r1 ++ [10] = r := ⟨_, rfl⟩
              have e1 : (⟨#[9, 35]⟩ : ByteArray) ++ bs remark = bs r1 := (append_bs [9, 35] remark).trans (congrArg bs hr1)
              have e2 : bs r1 ++ (⟨#[10]⟩ : ByteArray) = bs r2 := (append_bs r1 [10]).trans (congrArg bs hr2)
              have z1 : (bs r1).size = r1.length := bs_size r1
              have l1 : r1.length ≤ 102 := by rw [← hr1]; simp; omega
              have l2 : r2.length ≤ 103 := by rw [← hr2]; simp; omega
              have HR2 : Hid (r2 = 9 :: 35 :: (remark ++ [10])) := by show _ = _; rw [← hr2, ← hr1]; rfl
              clear hno hno' hus hbare hlt hr1 hr2
              go_wp2_with fail
              go_loopw [11, 12] (fun v t wx => ∃ k : Nat, k ≤ y.length ∧ t = .int .i64 (k : Int) ∧ ∃ z : List UInt8, v = .string (bs z) ∧ z.length ≤ 103 + 3 * k ∧ Hid (z = (9 :: 35 :: (remark ++ [10])) ++ (y.take k).flatMap widen) ∧ Hid (wx = wr)) (fun _ t _ => y.length - (intOf t).toNat)
              case atStart => exact ⟨0, Nat.zero_le _, rfl, r2, rfl, by omega, by show _ = _; rw [HR2.out]; simp, rfl⟩
              case round =>
                obtain ⟨k, hk, rfl, z, rfl, hz, hzz, hw⟩ := hrel
                obtain rfl := hw.out
                have hsz : (bs z).size = z.length := bs_size z
                clear hw e1 e2 z1
                by_cases hlt : k < y.length
                · obtain ⟨q, hcq⟩ : ∃ q, ((bs y)[k]'hlt).toNat = q := ⟨_, rfl⟩
                  have hcq' : y[k].toNat = q := hcq
                  have hnx := flat_next y k hlt
                  by_cases h32 : q = 32
                  · subst h32
                    have HZ : Hid (z ++ [32, 13, 10] = (9 :: 35 :: (remark ++ [10])) ++ (y.take (k + 1)).flatMap widen) := by
                      show _ = _
                      rw [hnx, hzz.out, widen, if_pos hcq', List.append_assoc]
                    obtain ⟨z2, hz2⟩ : ∃ r, z ++ [32, 13, 10] = r := ⟨_, rfl⟩
                    rw [hz2] at HZ
                    have e3 : bs z ++ (⟨#[32, 13, 10]⟩ : ByteArray) = bs z2 := (append_bs z [32, 13, 10]).trans (congrArg bs hz2)
                    have lz2 : z2.length ≤ z.length + 3 := by rw [← hz2]; simp
                    clear hnx hzz hcq' hz2
                    go_wp2_with fail
                    go_roundw
                    case rel => exact ⟨k + 1, by omega, by go_num, z2, rfl, by omega, HZ.out, trivial⟩
                    case measure => simp [intOf]; omega
                  · have HZ : Hid (z ++ [y[k]] = (9 :: 35 :: (remark ++ [10])) ++ (y.take (k + 1)).flatMap widen) := by
                      show _ = _
                      rw [hnx, hzz.out, widen, if_neg (by rw [hcq']; exact h32), List.append_assoc]
                    have hne : ((q : Int) == 32) = false := by simp; omega
                    obtain ⟨c1, hc1⟩ : ∃ c, y[k] = c := ⟨_, rfl⟩
                    have hext : (bs y).extract k (k + 1) = bs [c1] := by
                      rw [extract_bs, List.drop_take, List.drop_eq_getElem_cons hlt, Nat.add_sub_cancel_left, List.take_succ_cons, List.take_zero, hc1]
                    rw [hc1] at HZ
                    obtain ⟨z2, hz2⟩ : ∃ r, z ++ [c1] = r := ⟨_, rfl⟩
                    rw [hz2] at HZ
                    have e3 : bs z ++ bs [c1] = bs z2 := (append_bs z [c1]).trans (congrArg bs hz2)
                    have lz2 : z2.length ≤ z.length + 1 := by rw [← hz2]; simp
                    have z3 : (bs [c1]).size = 1 := rfl
                    clear hnx hzz hcq' hc1 h32 hz2
                    go_wp2_with fail
                    go_roundw
                    case rel => exact ⟨k + 1, by omega, by go_num, z2, rfl, by omega, HZ.out, trivial⟩
                    case measure => simp [intOf]; omega
                · obtain rfl : k = y.length := by omega
                  have HZ : Hid (z ++ [32, 35] ++ remark = (9 :: 35 :: (remark ++ [10])) ++ y.flatMap widen ++ [32, 35] ++ remark) := by
                    show _ = _
                    rw [hzz.out, List.take_length]
                  obtain ⟨z2, hz2⟩ : ∃ r, z ++ [32, 35] = r := ⟨_, rfl⟩
                  obtain ⟨z3, hz3⟩ : ∃ r, z2 ++ remark = r := ⟨_, rfl⟩
                  rw [hz2, hz3] at HZ
                  have e3 : bs z ++ (⟨#[32, 35]⟩ : ByteArray) = bs z2 := (append_bs z [32, 35]).trans (congrArg bs hz2)
                  have e4 : bs z2 ++ bs remark = bs z3 := (append_bs z2 remark).trans (congrArg bs hz3)
                  have s2 : (bs z2).size = z2.length := bs_size z2
                  have lz2 : z2.length ≤ z.length + 2 := by rw [← hz2]; simp
                  have hzl : z3.length ≤ 9223372036854775807 := by rw [← hz3]; simp; omega
                  clear hzz hlt hz2 hz3
                  go_wp2_with fail
                  refine (Tokens_c _ z3 hzl).mono ?_
                  rw [HZ.out, HUS.out]
                  rintro e w3 ⟨u, rfl, hu, hb3⟩
                  obtain ⟨a3, c3, rfl, _⟩ := hu.shape
                  have HU := Lib.hid hu
                  have HV3 := Lib.hid (HV2.out.after hb3)
                  have HB3 := Lib.hid (HB2.out.trans (hb3.mono HB2.out.size))
                  clear hu hb3
                  go_wp2_with fail
                  refine (same_yes _ _ _ ts us HV3.out HU.out HBARE.out).mono ?_
                  rintro e w4 ⟨rfl, hb4⟩
                  have HB4 := Lib.hid (HB3.out.trans (hb4.mono HB3.out.size))
                  clear hb4
                  go_wp2_with fail
                  refine (awake_c _).mono ?_
                  rintro e w5 ⟨rfl, hb5⟩
                  have HB5 := Lib.hid (HB4.out.trans (hb5.mono HB4.out.size))
                  clear hb5
                  go_wp2_with fail
                  go_ret
                  exact ⟨rfl, HB5.out⟩
        · have hc : decide (100 < (remark.length : Int)) = true := decide_eq_true (by omega)
          clear hR hri hln hP
          go_enter Tryd.func7, Tryd.ntmps7
          go_wp2_with fail
          refine (Tokens_c _ s hl).mono ?_
          rw [HR.out]
          rintro e w1 ⟨v, rfl, hv, hb1⟩
          obtain ⟨a, c, rfl, _⟩ := hv.shape
          have HV := Lib.hid hv
          have HB1 := Lib.hid hb1
          clear hv hb1
          go_wp2_with fail
          refine (Print_c _ _ ts HV.out HLN.out).mono ?_
          rw [HP.out]
          rintro e w2 ⟨rfl, hb2⟩
          have HB2 := Lib.hid (HB1.out.trans (hb2.mono HB1.out.size))
          have HV2 := Lib.hid (HV.out.after hb2)
          clear hb2 HV HB1
          go_wp2_with fail
          refine (awake_c _).mono ?_
          rintro e w5 ⟨rfl, hb5⟩
          have HB5 := Lib.hid (HB2.out.trans (hb5.mono HB2.out.size))
          clear hb5
          go_wp2_with fail
          go_ret
          exact ⟨rfl, HB5.out⟩
      · have hc : decide (1000 < (y.length : Int)) = true := decide_eq_true (by omega)
        clear hR hri hln hP
        go_enter Tryd.func7, Tryd.ntmps7
        go_wp2_with fail
        refine (Tokens_c _ s hl).mono ?_
        rw [HR.out]
        rintro e w1 ⟨v, rfl, hv, hb1⟩
        obtain ⟨a, c, rfl, _⟩ := hv.shape
        have HV := Lib.hid hv
        have HB1 := Lib.hid hb1
        clear hv hb1
        go_wp2_with fail
        refine (Print_c _ _ ts HV.out HLN.out).mono ?_
        rw [HP.out]
        rintro e w2 ⟨rfl, hb2⟩
        have HB2 := Lib.hid (HB1.out.trans (hb2.mono HB1.out.size))
        have HV2 := Lib.hid (HV.out.after hb2)
        clear hb2 HV HB1
        go_wp2_with fail
        refine (awake_c _).mono ?_
        rintro e w5 ⟨rfl, hb5⟩
        have HB5 := Lib.hid (HB2.out.trans (hb5.mono HB2.out.size))
        clear hb5
        go_wp2_with fail
        go_ret
        exact ⟨rfl, HB5.out⟩
    · have hc : ((ef : Int) != 0) = true := by simp; omega
      clear hR hri hln hP
      go_enter Tryd.func7, Tryd.ntmps7
      go_wp2_with fail
      refine (Tokens_c _ s hl).mono ?_
      rw [HR.out]
      rintro e w1 ⟨v, rfl, hv, hb1⟩
      obtain ⟨a, c, rfl, _⟩ := hv.shape
      have HV := Lib.hid hv
      have HB1 := Lib.hid hb1
      clear hv hb1
      go_wp2_with fail
      refine (Print_c _ _ ts HV.out HLN.out).mono ?_
      rw [HP.out]
      rintro e w2 ⟨rfl, hb2⟩
      have HB2 := Lib.hid (HB1.out.trans (hb2.mono HB1.out.size))
      have HV2 := Lib.hid (HV.out.after hb2)
      clear hb2 HV HB1
      go_wp2_with fail
      refine (awake_c _).mono ?_
      rintro e w5 ⟨rfl, hb5⟩
      have HB5 := Lib.hid (HB2.out.trans (hb5.mono HB2.out.size))
      clear hb5
      go_wp2_with fail
      go_ret
      exact ⟨rfl, HB5.out⟩
  · have hc : ((er : Int) != 0) = true := by simp; omega
    clear hR hri hln hP
    go_enter Tryd.func7, Tryd.ntmps7
    go_wp2_with fail
    refine (Tokens_c _ s hl).mono ?_
    rw [HR.out]
    rintro e w1 ⟨v, rfl, hv, hb1⟩
    obtain ⟨a, c, rfl, _⟩ := hv.shape
    have HV := Lib.hid hv
    have HB1 := Lib.hid hb1
    clear hv hb1
    go_wp2_with fail
    refine (Print_c _ _ ts HV.out HLN.out).mono ?_
    rw [HP.out]
    rintro e w2 ⟨rfl, hb2⟩
    have HB2 := Lib.hid (HB1.out.trans (hb2.mono HB1.out.size))
    have HV2 := Lib.hid (HV.out.after hb2)
    clear hb2 HV HB1
    go_wp2_with fail
    refine (awake_c _).mono ?_
    rintro e w5 ⟨rfl, hb5⟩
    have HB5 := Lib.hid (HB2.out.trans (hb5.mono HB2.out.size))
    clear hb5
    go_wp2_with fail
    go_ret
    exact ⟨rfl, HB5.out⟩
end Go.Proofs.YtnifndolopnbfaaDoor
