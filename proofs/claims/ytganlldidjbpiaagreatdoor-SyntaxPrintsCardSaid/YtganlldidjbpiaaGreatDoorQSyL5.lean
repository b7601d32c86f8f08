/- Walks of the statements about layer 2: SyntaxRound. -/
import Derived.Test.YtganlldidjbpiaaGreatDoorQSyL2
import Derived.Test.YtganlldidjbpiaaGreatDoorQSyWp
set_option linter.unusedVariables false
namespace Go.Proofs.YtganlldidjbpiaaGreatDoor
open Go.RowKit Go.Shelf

theorem print_cases (l : List Cl) : printC l = ([], 1) ∨ printC l = ([], 3) ∨ ∃ t, printC l = (t, 0) := by
  unfold printC
  by_cases hf : ∀ c ∈ l, formT c
  · rw [if_pos hf]
    by_cases hl : 4096 < (textC l).length
    · rw [if_pos hl]; exact .inr (.inl rfl)
    · rw [if_neg hl]; exact .inr (.inr ⟨_, rfl⟩)
  · rw [if_neg hf]; exact .inl rfl
set_option maxRecDepth 100000 in
set_option maxHeartbeats 4000000 in
theorem syntaxRound_w (N : Nat) (w : World) (v : Value) (l : List Cl) (h : SlC (fun b => b < w.heap.size) w v l) (hbd : ∀ c ∈ l, Bd c) (hN : N ≤ w.heap.size) (he : Wds N w) (ht : Tab10 w) : Calls Tryz.prog 5 #[v] w (RetB w true) := by
  have HE := Lib.hid he
  have HT := Lib.hid ht
  clear he ht
  have VL := Lib.hid h
  obtain ⟨pv, cv, rfl, _, _, _⟩ := h.shape
  clear h
  obtain ⟨B, hsm⟩ : ∃ B, smallB l = B := ⟨_, rfl⟩
  have HSM := Lib.hid hsm
  cases B with
  | false =>
    clear hsm hbd
    go_enter Tryz.func5, Tryz.ntmps5
    go_wp2_with fail
    refine (small_c _ _ _ l VL.out).mono ?_
    rw [HSM.out]
    rintro e w1 ⟨rfl, hb⟩
    have HB1 := Lib.hid (hb)
    have hN1 : N ≤ w1.heap.size := Nat.le_trans hN hb.size
    have HE1 := Lib.hid (HE.out.after hb)
    have HT1 := Lib.hid (HT.out.after hb)
    replace VL := Lib.hid (VL.out.after hb)
    clear hb
    go_wp2_with fail
    refine (sawake_c N _ hN1 HE1.out HT1.out).mono ?_
    rintro e w2 ⟨rfl, hb⟩
    have HB2 := Lib.hid (HB1.out.trans (hb.mono HB1.out.size))
    clear hb
    go_wp2_with fail
    go_ret
    exact ⟨rfl, HB2.out⟩
  | true =>
    have HWD := Lib.hid (small_words hbd hsm)
    have q0 : bs ([] : List UInt8) = ⟨#[]⟩ := rfl
    clear hsm hbd
    rcases print_cases l with hp | hp | ⟨t, hp⟩
    · have HP := Lib.hid hp
      clear hp
      go_enter Tryz.func5, Tryz.ntmps5
      go_wp2_with fail
      refine (small_c _ _ _ l VL.out).mono ?_
      rw [HSM.out]
      rintro e w1 ⟨rfl, hb⟩
      have HB1 := Lib.hid (hb)
      have hN1 : N ≤ w1.heap.size := Nat.le_trans hN hb.size
      have HE1 := Lib.hid (HE.out.after hb)
      have HT1 := Lib.hid (HT.out.after hb)
      replace VL := Lib.hid (VL.out.after hb)
      clear hb
      go_wp2_with fail
      refine (SPrint_all N _ _ _ l VL.out hN1 HE1.out HT1.out HWD.out).mono ?_
      rw [HP.out]
      rintro e w2 ⟨rfl, hb⟩
      have HB2 := Lib.hid (HB1.out.trans (hb.mono HB1.out.size))
      have hN2 : N ≤ w2.heap.size := Nat.le_trans hN1 hb.size
      have HE2 := Lib.hid (HE1.out.after hb)
      have HT2 := Lib.hid (HT1.out.after hb)
      replace VL := Lib.hid (VL.out.after hb)
      clear hb
      go_wp2_with fail
      refine (sawake_c N _ hN2 HE2.out HT2.out).mono ?_
      rintro e w3 ⟨rfl, hb⟩
      have HB3 := Lib.hid (HB2.out.trans (hb.mono HB2.out.size))
      clear hb
      go_wp2_with fail
      go_ret
      exact ⟨rfl, HB3.out⟩
    · have HP := Lib.hid hp
      clear hp
      go_enter Tryz.func5, Tryz.ntmps5
      go_wp2_with fail
      refine (small_c _ _ _ l VL.out).mono ?_
      rw [HSM.out]
      rintro e w1 ⟨rfl, hb⟩
      have HB1 := Lib.hid (hb)
      have hN1 : N ≤ w1.heap.size := Nat.le_trans hN hb.size
      have HE1 := Lib.hid (HE.out.after hb)
      have HT1 := Lib.hid (HT.out.after hb)
      replace VL := Lib.hid (VL.out.after hb)
      clear hb
      go_wp2_with fail
      refine (SPrint_all N _ _ _ l VL.out hN1 HE1.out HT1.out HWD.out).mono ?_
      rw [HP.out]
      rintro e w2 ⟨rfl, hb⟩
      have HB2 := Lib.hid (HB1.out.trans (hb.mono HB1.out.size))
      have hN2 : N ≤ w2.heap.size := Nat.le_trans hN1 hb.size
      have HE2 := Lib.hid (HE1.out.after hb)
      have HT2 := Lib.hid (HT1.out.after hb)
      replace VL := Lib.hid (VL.out.after hb)
      clear hb
      go_wp2_with fail
      refine (sawake_c N _ hN2 HE2.out HT2.out).mono ?_
      rintro e w3 ⟨rfl, hb⟩
      have HB3 := Lib.hid (HB2.out.trans (hb.mono HB2.out.size))
      clear hb
      go_wp2_with fail
      go_ret
      exact ⟨rfl, HB3.out⟩
    · have HP := Lib.hid hp
      obtain ⟨ds, hr, hst⟩ := round hp
      have HR := Lib.hid hr
      have HSA : Hid (eqL l ds = true) := (eqL_iff l ds).2 hst.symm
      have htl : t.length ≤ 9223372036854775807 := by have := print_len hp; omega
      clear hp hr hst
      go_enter Tryz.func5, Tryz.ntmps5
      go_wp2_with fail
      refine (small_c _ _ _ l VL.out).mono ?_
      rw [HSM.out]
      rintro e w1 ⟨rfl, hb⟩
      have HB1 := Lib.hid (hb)
      have hN1 : N ≤ w1.heap.size := Nat.le_trans hN hb.size
      have HE1 := Lib.hid (HE.out.after hb)
      have HT1 := Lib.hid (HT.out.after hb)
      replace VL := Lib.hid (VL.out.after hb)
      clear hb
      go_wp2_with fail
      refine (SPrint_all N _ _ _ l VL.out hN1 HE1.out HT1.out HWD.out).mono ?_
      rw [HP.out]
      rintro e w2 ⟨rfl, hb⟩
      have HB2 := Lib.hid (HB1.out.trans (hb.mono HB1.out.size))
      have hN2 : N ≤ w2.heap.size := Nat.le_trans hN1 hb.size
      have HE2 := Lib.hid (HE1.out.after hb)
      have HT2 := Lib.hid (HT1.out.after hb)
      replace VL := Lib.hid (VL.out.after hb)
      clear hb
      go_wp2_with fail
      refine (Parse_c N _ t htl hN2 HE2.out).mono ?_
      rw [HR.out]
      rintro e w3 ⟨vm, rfl, hv, hb⟩
      have HB3 := Lib.hid (HB2.out.trans (hb.mono HB2.out.size))
      have hN3 : N ≤ w3.heap.size := Nat.le_trans hN2 hb.size
      have HE3 := Lib.hid (HE2.out.after hb)
      have HT3 := Lib.hid (HT2.out.after hb)
      replace VL := Lib.hid (VL.out.after hb)
      have VM := Lib.hid hv
      obtain ⟨sa3, sc3, rfl, k3, kk3, _⟩ := hv.shape
      clear hv hb
      go_wp2_with fail
      refine (rSame_c _ _ _ _ _ l ds VL.out VM.out).mono ?_
      rw [HSA.out]
      rintro e w4 ⟨rfl, hb⟩
      have HB4 := Lib.hid (HB3.out.trans (hb.mono HB3.out.size))
      have hN4 : N ≤ w4.heap.size := Nat.le_trans hN3 hb.size
      have HE4 := Lib.hid (HE3.out.after hb)
      have HT4 := Lib.hid (HT3.out.after hb)
      replace VL := Lib.hid (VL.out.after hb)
      replace VM := Lib.hid (VM.out.after hb)
      clear hb
      go_wp2_with fail
      refine (sawake_c N _ hN4 HE4.out HT4.out).mono ?_
      rintro e w5 ⟨rfl, hb⟩
      have HB5 := Lib.hid (HB4.out.trans (hb.mono HB4.out.size))
      clear hb
      go_wp2_with fail
      go_ret
      exact ⟨rfl, HB5.out⟩
end Go.Proofs.YtganlldidjbpiaaGreatDoor
