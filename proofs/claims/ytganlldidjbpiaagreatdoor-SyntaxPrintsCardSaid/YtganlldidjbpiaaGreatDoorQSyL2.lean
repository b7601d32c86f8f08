/- Walks of the statements about layer 2: SyntaxFixed. -/
import Derived.Test.YtganlldidjbpiaaGreatDoorK23
import Derived.Test.YtganlldidjbpiaaGreatDoorK24
set_option linter.unusedVariables false
namespace Go.Proofs.YtganlldidjbpiaaGreatDoor
open Go.RowKit Go.Shelf

theorem print_len {l : List Cl} {t : List UInt8} (h : printC l = (t, 0)) : t.length ≤ 4096 := by
  unfold printC at h
  by_cases hf : ∀ c ∈ l, formT c
  · rw [if_pos hf] at h
    by_cases hl : 4096 < (textC l).length
    · rw [if_pos hl] at h; cases h
    · rw [if_neg hl] at h
      injection h with h _
      rw [← h]
      omega
  · rw [if_neg hf] at h; cases h
set_option maxRecDepth 100000 in
set_option maxHeartbeats 4000000 in
theorem syntaxFixed_w (N : Nat) (w : World) (s : List UInt8) (hl : s.length ≤ 9223372036854775807) (hN : N ≤ w.heap.size) (he : Wds N w) (ht : Tab10 w) : Calls Tryz.prog 6 #[.string (bs s)] w (RetB w true) := by
  have hs : (bs s).size = s.length := bs_size s
  have HE := Lib.hid he
  have HT := Lib.hid ht
  obtain ⟨⟨l, o, e⟩, hR⟩ : ∃ R, parseF s = R := ⟨_, rfl⟩
  have HR := Lib.hid hR
  clear he ht
  by_cases h0 : e = 0
  · subst h0
    obtain ⟨hform, hfix⟩ := fixed hR
    have hwd := parse_words hR
    have HW : Hid ((∀ c ∈ l, formT c) → (l.flatMap textsT).length ≤ 100000) := fun _ => by omega
    have hfb : l.all formBT = true := List.all_eq_true.2 fun c hc => (formBT_iff c).2 (hform c hc)
    have HFB := Lib.hid hfb
    rcases hfix with hp | ⟨t, m, hp, hm, hst, hpm⟩
    · have HP := Lib.hid hp
      clear hform hwd hfb hp hR
      go_enter Tryz.func6, Tryz.ntmps6
      go_wp2_with fail
      refine (Parse_c N _ s hl hN HE.out).mono ?_
      rw [HR.out]
      rintro e w1 ⟨v, rfl, hv, hb⟩
      have HV := Lib.hid hv
      have HB := Lib.hid hb
      have hN1 : N ≤ w1.heap.size := Nat.le_trans hN hb.size
      have HE1 := Lib.hid (HE.out.after hb)
      have HT1 := Lib.hid (HT.out.after hb)
      obtain ⟨a, c, rfl, _⟩ := hv.shape
      clear hv hb
      go_wp2_with fail
      refine (SPrint_all N _ _ _ _ HV.out hN1 HE1.out HT1.out HW.out).mono ?_
      rw [HP.out]
      rintro e w2 ⟨rfl, hb2⟩
      have HB2 := Lib.hid (HB.out.trans (hb2.mono HB.out.size))
      have HV2 := Lib.hid (HV.out.after hb2)
      have HE2 := Lib.hid (HE1.out.after hb2)
      have HT2 := Lib.hid (HT1.out.after hb2)
      have hN2 : N ≤ w2.heap.size := Nat.le_trans hN1 hb2.size
      clear hb2
      go_wp2_with fail
      refine (Formed_c N _ _ _ _ HV2.out hN2 HE2.out).mono ?_
      rw [HFB.out]
      rintro e w3 ⟨rfl, hb3⟩
      have HB3 := Lib.hid (HB2.out.trans (hb3.mono HB2.out.size))
      have HE3 := Lib.hid (HE2.out.after hb3)
      have HT3 := Lib.hid (HT2.out.after hb3)
      have hN3 : N ≤ w3.heap.size := Nat.le_trans hN2 hb3.size
      clear hb3
      go_wp2_with fail
      refine (sawake_c N _ hN3 HE3.out HT3.out).mono ?_
      rintro e w4 ⟨rfl, hb4⟩
      have HB4 := Lib.hid (HB3.out.trans (hb4.mono HB3.out.size))
      clear hb4
      go_wp2_with fail
      go_ret
      exact ⟨rfl, HB4.out⟩
    · have HP := Lib.hid hp
      have HM := Lib.hid hm
      have HPM := Lib.hid hpm
      have HTL := Lib.hid (print_len hp)
      have HS : Hid (eqL l m = true) := (eqL_iff l m).2 hst.symm
      have HWM : Hid ((∀ c ∈ m, formT c) → (m.flatMap textsT).length ≤ 100000) := fun _ => by have := parse_words hm; omega
      have q1 := bs_eq_self t
      clear hform hwd hfb hp hR hm hst hpm
      go_enter Tryz.func6, Tryz.ntmps6
      go_wp2_with fail
      refine (Parse_c N _ s hl hN HE.out).mono ?_
      rw [HR.out]
      rintro e w1 ⟨v, rfl, hv, hb⟩
      have HV := Lib.hid hv
      have HB := Lib.hid hb
      have hN1 : N ≤ w1.heap.size := Nat.le_trans hN hb.size
      have HE1 := Lib.hid (HE.out.after hb)
      have HT1 := Lib.hid (HT.out.after hb)
      obtain ⟨a, c, rfl, _⟩ := hv.shape
      clear hv hb
      go_wp2_with fail
      refine (SPrint_all N _ _ _ _ HV.out hN1 HE1.out HT1.out HW.out).mono ?_
      rw [HP.out]
      rintro e w2 ⟨rfl, hb2⟩
      have HB2 := Lib.hid (HB.out.trans (hb2.mono HB.out.size))
      have HV2 := Lib.hid (HV.out.after hb2)
      have HE2 := Lib.hid (HE1.out.after hb2)
      have HT2 := Lib.hid (HT1.out.after hb2)
      have hN2 : N ≤ w2.heap.size := Nat.le_trans hN1 hb2.size
      clear hb2
      go_wp2_with fail
      refine (Parse_c N _ t (by have := HTL.out; omega) hN2 HE2.out).mono ?_
      rw [HM.out]
      rintro e w3 ⟨u, rfl, hu, hb3⟩
      have HU := Lib.hid hu
      have HB3 := Lib.hid (HB2.out.trans (hb3.mono HB2.out.size))
      have HV3 := Lib.hid (HV2.out.after hb3)
      have HE3 := Lib.hid (HE2.out.after hb3)
      have HT3 := Lib.hid (HT2.out.after hb3)
      have hN3 : N ≤ w3.heap.size := Nat.le_trans hN2 hb3.size
      obtain ⟨a', c', rfl, _⟩ := hu.shape
      clear hu hb3
      go_wp2_with fail
      refine (SPrint_all N _ _ _ _ HU.out hN3 HE3.out HT3.out HWM.out).mono ?_
      rw [HPM.out]
      rintro e w4 ⟨rfl, hb4⟩
      have HB4 := Lib.hid (HB3.out.trans (hb4.mono HB3.out.size))
      have HV4 := Lib.hid (HV3.out.after hb4)
      have HU4 := Lib.hid (HU.out.after hb4)
      have HE4 := Lib.hid (HE3.out.after hb4)
      have HT4 := Lib.hid (HT3.out.after hb4)
      have hN4 : N ≤ w4.heap.size := Nat.le_trans hN3 hb4.size
      clear hb4
      go_wp2_with fail
      refine (rSame_c _ _ _ _ _ _ _ HV4.out HU4.out).mono ?_
      rw [HS.out]
      rintro e w5 ⟨rfl, hb5⟩
      have HB5 := Lib.hid (HB4.out.trans (hb5.mono HB4.out.size))
      have HE5 := Lib.hid (HE4.out.after hb5)
      have HT5 := Lib.hid (HT4.out.after hb5)
      have hN5 : N ≤ w5.heap.size := Nat.le_trans hN4 hb5.size
      clear hb5
      go_wp2_with fail
      refine (sawake_c N _ hN5 HE5.out HT5.out).mono ?_
      rintro e w6 ⟨rfl, hb6⟩
      have HB6 := Lib.hid (HB5.out.trans (hb6.mono HB5.out.size))
      clear hb6
      go_wp2_with fail
      go_ret
      exact ⟨rfl, HB6.out⟩
  · obtain ⟨rfl, h1, h2⟩ := parse_bounds hR h0
    have q0 : ((e : Int) != 0) = true := by simp; omega
    clear hR h0
    go_enter Tryz.func6, Tryz.ntmps6
    go_wp2_with fail
    refine (Parse_c N _ s hl hN HE.out).mono ?_
    rw [HR.out]
    rintro e w1 ⟨v, rfl, hv, hb⟩
    have HB := Lib.hid hb
    have hN1 : N ≤ w1.heap.size := Nat.le_trans hN hb.size
    have HE1 := Lib.hid (HE.out.after hb)
    have HT1 := Lib.hid (HT.out.after hb)
    obtain ⟨a, c, rfl, _⟩ := hv.shape
    clear hv hb
    go_wp2_with fail
    refine (sawake_c N _ hN1 HE1.out HT1.out).mono ?_
    rintro e w2 ⟨rfl, hb2⟩
    have HB2 := Lib.hid (HB.out.trans (hb2.mono HB.out.size))
    clear hb2
    go_wp2_with fail
    go_ret
    exact ⟨rfl, HB2.out⟩
end Go.Proofs.YtganlldidjbpiaaGreatDoor
