/- Walk of a statement about layer 1: LexisStands. -/
import Derived.Test.YtnifndolopnbfaaDoorK07
import Derived.Deep.QuietTactic
set_option linter.unusedVariables false
namespace Go.Proofs.YtnifndolopnbfaaDoor
open Go.RowKit

/-- What is said from token i on, where the last one ended at o. -/
theorem chain_end {s : List UInt8} {o : Nat} (h : Chain s o []) : idleQ false (s.drop o) = true := h
theorem chain_next {s : List UInt8} {o : Nat} {t : Tok} {r : List Tok} (h : Chain s o (t :: r)) : ∃ n : Nat, t.off = (n : Int) ∧ o ≤ n ∧ n + t.text.length ≤ s.length ∧ 0 < t.text.length ∧ idleQ false ((s.take n).drop o) = true ∧ (s.take (n + t.text.length)).drop n = t.text ∧ Chain s (n + t.text.length) r := h
theorem toks_chain {s : List UInt8} (h : (toksF s).2.2 = 0) : Chain s 0 (toksF s).1 := by
  obtain ⟨_, hok, e⟩ := toks_good h
  rw [e]
  exact stands s 0 s (Nat.zero_le _) (by rw [List.drop_zero]) hok

set_option maxRecDepth 100000 in
set_option maxHeartbeats 4000000 in
theorem lexisStands_w (w : World) (s : List UInt8) (hl : s.length ≤ 9223372036854775807) : Calls Tryd.prog 6 #[.string (bs s)] w fun e w' => e = .returned (.bool true) ∧ Below w.heap.size w w' := by
  have hs : (bs s).size = s.length := bs_size s
  have hch := toks_chain (s := s)
  have hln := toks_len s
  obtain ⟨⟨ts, at_, er⟩, hR⟩ : ∃ R, toksF s = R := ⟨_, rfl⟩
  rw [hR] at hch hln
  have HR := Lib.hid hR
  simp only at hch hln
  by_cases he : er = 0
  · subst he
    have HCH := Lib.hid (hch rfl)
    obtain ⟨n, hN⟩ : ∃ n, ts.length = n := ⟨_, rfl⟩
    have HN := Lib.hid hN
    rw [hN] at hln
    clear hR hch
    go_enter Tryd.func6, Tryd.ntmps6
    go_wp2_with fail
    refine (Tokens_c _ s hl).mono ?_
    rw [HR.out]
    rintro e w1 ⟨v, rfl, hv, hb1⟩
    have HV := Lib.hid hv
    obtain ⟨a, c, rfl, m1, m2, _⟩ := hv.shape
    rw [hN] at HV m1 ⊢
    have HB1 := Lib.hid hb1
    clear hv hb1 hN
    go_wp2_with fail
    go_loopg [6, 7] (n + 1) (fun g fr i wx => ∃ (k o : Nat), k ≤ n + 1 ∧ g = n + 1 - k ∧ fr = .int .i64 (o : Int) ∧ i = .int .i64 (k : Int) ∧ o ≤ s.length ∧ Hid (k ≤ n → Chain s o (ts.drop k)) ∧ Hid (Below w.heap.size w wx) ∧ Hid (SlK wx (.slice a n c) ts))
    case atStart => exact ⟨0, 0, Nat.zero_le _, rfl, rfl, rfl, Nat.zero_le _, fun _ => HCH.out, HB1.out, HV.out⟩
    case round =>
      obtain ⟨k, o, hk, rfl, rfl, rfl, ho, hc, hb, hv⟩ := hrel
      clear HB1 HV HCH
      by_cases hlt : k < n
      · have hkl : k < ts.length := by rw [HN.out]; exact hlt
        have hc2 := hc.out (by omega)
        rw [List.drop_eq_getElem_cons hkl] at hc2
        obtain ⟨p, q1, q2, q3, q4, q5, q6, q7⟩ := chain_next hc2
        obtain ⟨b, off, cap, e, _, _, hblt, hcell⟩ := hv.out.at_ (by omega)
        injection e with e1 e2 e3
        clear e2
        subst e1
        subst e3
        obtain ⟨_, a1, _, a3⟩ := hcell k hkl
        rw [tok_get hkl] at a1 a3
        rw [q1] at a3
        obtain ⟨x, hx⟩ : ∃ x, ts[k].text = x := ⟨_, rfl⟩
        rw [hx] at a1 q3 q4 q6 q7
        have hext1 : (bs s).extract o p = bs ((s.take p).drop o) := extract_bs s o p
        have hext2 : (bs s).extract p (p + x.length) = bs x := by rw [extract_bs, q6]
        obtain ⟨y, hy⟩ : ∃ y, (s.take p).drop o = y := ⟨_, rfl⟩
        have hyl : y.length ≤ 9223372036854775807 := by rw [← hy, List.length_drop, List.length_take]; omega
        rw [hy] at hext1 q5
        have hsx : (bs x).size = x.length := bs_size x
        have hemp : (bs x).toList.isEmpty = false := by
          rw [list_ba]
          cases x with
          | nil => simp at q4
          | cons c m => rfl
        have Q5 := Lib.hid q5
        have Q7 := Lib.hid q7
        clear hc hc2 hcell hx hy q1 q5 q6 q7
        go_wp2_with fail
        refine (lidle_c y hyl _).mono ?_
        rw [Q5.out]
        rintro e w2 ⟨rfl, rfl⟩
        go_wp2_with fail
        have g1 : decide ((s.length : Int) - (p : Int) < (x.length : Int)) = false := decide_eq_false (by omega)
        have g2 : (0 : Int) ≤ (p : Int) + (x.length : Int) := by omega
        have g3 : (p : Int) + (x.length : Int) ≤ (s.length : Int) := by omega
        have g4 : (p : Int) ≤ (p : Int) + (x.length : Int) := by omega
        have g5 : ((p : Int) + (x.length : Int)).toNat = p + x.length := by omega
        go_quiet (fail)
        go_wp2_with fail
        go_roundg (n + 1 - (k + 1))
        case measure => omega
        case rel => exact ⟨k + 1, p + x.length, by omega, rfl, by go_num, by go_num, q3, fun _ => Q7.out, hb.out.trans ((below_drewN _ _ _).mono hb.out.size), hv.out.after (below_drewN _ _ _)⟩
      · by_cases hkn : k = n
        · subst hkn
          have hc2 := hc.out (Nat.le_refl _)
          rw [List.drop_eq_nil_of_le (Nat.le_of_eq HN.out)] at hc2
          have Q5 : Hid (idleQ false (s.drop o) = true) := chain_end hc2
          have hext1 : (bs s).extract o s.length = bs (s.drop o) := by
            have := extract_back s o
            rwa [bs_size] at this
          obtain ⟨y, hy⟩ : ∃ y, s.drop o = y := ⟨_, rfl⟩
          have hyl : y.length ≤ 9223372036854775807 := by rw [← hy, List.length_drop]; omega
          rw [hy] at hext1 Q5
          clear hc hc2 hy
          go_wp2_with fail
          refine (lidle_c y hyl _).mono ?_
          rw [Q5.out]
          rintro e w2 ⟨rfl, rfl⟩
          go_wp2_with fail
          go_roundg (0 : Nat)
          case measure => omega
          case rel => exact ⟨k + 1, o, by omega, by omega, rfl, by go_num, ho, fun h => by omega, hb.out, hv.out⟩
        · obtain rfl : k = n + 1 := by omega
          go_wp2_with fail
          refine (awake_c _).mono ?_
          rintro e w5 ⟨rfl, hb5⟩
          have HB5 := Lib.hid (hb.out.trans (hb5.mono hb.out.size))
          clear hb5
          go_wp2_with fail
          go_ret
          exact ⟨rfl, HB5.out⟩
  · have he' : ((er : Int) != 0) = true := by simp; omega
    clear hR hch he
    go_enter Tryd.func6, Tryd.ntmps6
    go_wp2_with fail
    refine (Tokens_c _ s hl).mono ?_
    rw [HR.out]
    rintro e w1 ⟨v, rfl, hv, hb1⟩
    obtain ⟨a, c, rfl, _⟩ := hv.shape
    have HB1 := Lib.hid hb1
    clear hv hb1
    go_wp2_with fail
    refine (awake_c _).mono ?_
    rintro e w5 ⟨rfl, hb5⟩
    have HB5 := Lib.hid (HB1.out.trans (hb5.mono HB1.out.size))
    clear hb5
    go_wp2_with fail
    go_ret
    exact ⟨rfl, HB5.out⟩
end Go.Proofs.YtnifndolopnbfaaDoor
