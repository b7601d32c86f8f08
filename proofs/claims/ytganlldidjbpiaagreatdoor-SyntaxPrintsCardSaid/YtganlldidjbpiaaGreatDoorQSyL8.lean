/- Walks of the statements about layer 2: SyntaxPrints. -/
import Derived.Test.YtganlldidjbpiaaGreatDoorQSyL5
import Derived.Test.YtganlldidjbpiaaGreatDoorK24
import Derived.Test.YtganlldidjbpiaaGreatDoorQSyY7
set_option linter.unusedVariables false
namespace Go.Proofs.YtganlldidjbpiaaGreatDoor
open Go.RowKit Go.Shelf

/-- Print of any tree whose words are not too many. -/
theorem rPrint_all (D : Nat → Prop) (w : World) (v : Value) (l : List Cl) (h : SlC D w v l) (hwl : (∀ c ∈ l, formT c) → (l.flatMap textsT).length ≤ 100000) :
    Calls Tryz.prog 16 #[v] w (RetPr w (printC l)) := by
  cases hfb : l.all formBT with
  | true =>
    have hall : ∀ c ∈ l, formT c := fun c hc => (formBT_iff c).1 (List.all_eq_true.1 hfb c hc)
    exact rPrint_c D w v l h (hwl hall) (words_ok hall)
  | false =>
    have HF := Lib.hid (rFormed_c D w _ l h)
    obtain ⟨pr, hpr⟩ : ∃ p, printC l = p := ⟨_, rfl⟩
    have HP2 : Hid (pr = ([], 1)) := by show _ = _; rw [← hpr]; exact printC_no hfb
    rw [hpr]
    rw [hfb] at HF
    obtain ⟨pl, cl, rfl, l1, l2, _⟩ := h.shape
    clear h hwl hpr hfb
    go_enter Tryz.func16, Tryz.ntmps16
    go_wp2_with fail
    refine HF.out.mono ?_
    rintro e w1 ⟨rfl, hb1⟩
    have HB1 := Lib.hid hb1
    clear hb1
    go_wp2_with fail
    go_ret2
    exact ⟨by rw [HP2.out]; rfl, HB1.out⟩
set_option maxRecDepth 100000 in
set_option maxHeartbeats 8000000 in
theorem syntaxPrints_w (N : Nat) (w : World) (v u : Value) (l m : List Cl) (h : SlC (fun b => b < w.heap.size) w v l) (h' : SlC (fun b => b < w.heap.size) w u m) (hbd : ∀ c ∈ l, Bd c) (hN : N ≤ w.heap.size) (he : Wds N w) (ht : Tab10 w) : Calls Tryz.prog 4 #[v, u] w (RetB w true) := by
  have HE := Lib.hid he
  have HT := Lib.hid ht
  clear he ht
  have VL := Lib.hid h
  have VM := Lib.hid h'
  obtain ⟨pv, cv, rfl, _, _, _⟩ := h.shape
  obtain ⟨pu, cu, rfl, _, _, _⟩ := h'.shape
  clear h h'
  obtain ⟨B, hsm⟩ : ∃ B, smallB l = B := ⟨_, rfl⟩
  have HSM := Lib.hid hsm
  obtain ⟨B2, hsm2⟩ : ∃ B, smallB m = B := ⟨_, rfl⟩
  have HSM2 := Lib.hid hsm2
  cases B with
  | false =>
    clear hsm hsm2 hbd
    go_enter Tryz.func4, Tryz.ntmps4
    go_wp2_with fail
    refine (small_c _ _ _ l VL.out).mono ?_
    rw [HSM.out]
    rintro e w1 ⟨rfl, hb⟩
    have HB1 := Lib.hid (hb)
    have hN1 : N ≤ w1.heap.size := Nat.le_trans hN hb.size
    have HE1 := Lib.hid (HE.out.after hb)
    have HT1 := Lib.hid (HT.out.after hb)
    replace VL := Lib.hid (VL.out.after hb)
    replace VM := Lib.hid (VM.out.after hb)
    clear hb
    go_wp2_with fail
    refine (sawake_c N _ hN1 HE1.out HT1.out).mono ?_
    rintro e w2 ⟨rfl, hb⟩
    have HB2 := Lib.hid (HB1.out.trans (hb.mono HB1.out.size))
    clear hb
    go_wp2_with fail
    go_ret
    exact ⟨rfl, HB2.out⟩
  | true =>
    cases B2 with
    | false =>
      clear hsm hsm2 hbd
      go_enter Tryz.func4, Tryz.ntmps4
      go_wp2_with fail
      refine (small_c _ _ _ l VL.out).mono ?_
      rw [HSM.out]
      rintro e w1 ⟨rfl, hb⟩
      have HB1 := Lib.hid (hb)
      have hN1 : N ≤ w1.heap.size := Nat.le_trans hN hb.size
      have HE1 := Lib.hid (HE.out.after hb)
      have HT1 := Lib.hid (HT.out.after hb)
      replace VL := Lib.hid (VL.out.after hb)
      replace VM := Lib.hid (VM.out.after hb)
      clear hb
      go_wp2_with fail
      refine (small_c _ _ _ m VM.out).mono ?_
      rw [HSM2.out]
      rintro e w2 ⟨rfl, hb⟩
      have HB2 := Lib.hid (HB1.out.trans (hb.mono HB1.out.size))
      have hN2 : N ≤ w2.heap.size := Nat.le_trans hN1 hb.size
      have HE2 := Lib.hid (HE1.out.after hb)
      have HT2 := Lib.hid (HT1.out.after hb)
      replace VL := Lib.hid (VL.out.after hb)
      replace VM := Lib.hid (VM.out.after hb)
      clear hb
      go_wp2_with fail
      refine (sawake_c N _ hN2 HE2.out HT2.out).mono ?_
      rintro e w3 ⟨rfl, hb⟩
      have HB3 := Lib.hid (HB2.out.trans (hb.mono HB2.out.size))
      clear hb
      go_wp2_with fail
      go_ret
      exact ⟨rfl, HB3.out⟩
    | true =>
      have HWD := Lib.hid (small_words hbd hsm)
      clear hsm hsm2 hbd
      obtain ⟨⟨t, er⟩, hp⟩ : ∃ R, printC l = R := ⟨_, rfl⟩
      have HP := Lib.hid hp
      obtain ⟨bf, hf⟩ : ∃ b, l.all formBT = b := ⟨_, rfl⟩
      have HF := Lib.hid hf
      obtain ⟨bq, hq⟩ : ∃ b, eqL l m = b := ⟨_, rfl⟩
      have HQ := Lib.hid hq
      have HLL : Hid (eqL l l = true) := (eqL_iff l l).2 rfl
      have q1 := bs_eq_self t
      have q2 : ((er : Int) == (er : Int)) = true := by simp
      have q3 : (bf == bf) = true := by simp
      have q4 : (bq == bq) = true := by simp
      clear hp hf hq
      go_enter Tryz.func4, Tryz.ntmps4
      go_wp2_with fail
      refine (small_c _ _ _ l VL.out).mono ?_
      rw [HSM.out]
      rintro e w1 ⟨rfl, hb⟩
      have HB1 := Lib.hid (hb)
      have hN1 : N ≤ w1.heap.size := Nat.le_trans hN hb.size
      have HE1 := Lib.hid (HE.out.after hb)
      have HT1 := Lib.hid (HT.out.after hb)
      replace VL := Lib.hid (VL.out.after hb)
      replace VM := Lib.hid (VM.out.after hb)
      clear hb
      go_wp2_with fail
      refine (small_c _ _ _ m VM.out).mono ?_
      rw [HSM2.out]
      rintro e w2 ⟨rfl, hb⟩
      have HB2 := Lib.hid (HB1.out.trans (hb.mono HB1.out.size))
      have hN2 : N ≤ w2.heap.size := Nat.le_trans hN1 hb.size
      have HE2 := Lib.hid (HE1.out.after hb)
      have HT2 := Lib.hid (HT1.out.after hb)
      replace VL := Lib.hid (VL.out.after hb)
      replace VM := Lib.hid (VM.out.after hb)
      clear hb
      go_wp2_with fail
      refine (SPrint_all N _ _ _ l VL.out hN2 HE2.out HT2.out HWD.out).mono ?_
      rw [HP.out]
      rintro e w3 ⟨rfl, hb⟩
      have HB3 := Lib.hid (HB2.out.trans (hb.mono HB2.out.size))
      have hN3 : N ≤ w3.heap.size := Nat.le_trans hN2 hb.size
      have HE3 := Lib.hid (HE2.out.after hb)
      have HT3 := Lib.hid (HT2.out.after hb)
      replace VL := Lib.hid (VL.out.after hb)
      replace VM := Lib.hid (VM.out.after hb)
      clear hb
      go_wp2_with fail
      refine (rPrint_all _ _ _ l VL.out HWD.out).mono ?_
      rw [HP.out]
      rintro e w4 ⟨rfl, hb⟩
      have HB4 := Lib.hid (HB3.out.trans (hb.mono HB3.out.size))
      have hN4 : N ≤ w4.heap.size := Nat.le_trans hN3 hb.size
      have HE4 := Lib.hid (HE3.out.after hb)
      have HT4 := Lib.hid (HT3.out.after hb)
      replace VL := Lib.hid (VL.out.after hb)
      replace VM := Lib.hid (VM.out.after hb)
      clear hb
      go_wp2_with fail
      refine (Formed_c N _ _ _ l VL.out hN4 HE4.out).mono ?_
      rw [HF.out]
      rintro e w5 ⟨rfl, hb⟩
      have HB5 := Lib.hid (HB4.out.trans (hb.mono HB4.out.size))
      have hN5 : N ≤ w5.heap.size := Nat.le_trans hN4 hb.size
      have HE5 := Lib.hid (HE4.out.after hb)
      have HT5 := Lib.hid (HT4.out.after hb)
      replace VL := Lib.hid (VL.out.after hb)
      replace VM := Lib.hid (VM.out.after hb)
      clear hb
      go_wp2_with fail
      refine (rFormed_c _ _ _ l VL.out).mono ?_
      rw [HF.out]
      rintro e w6 ⟨rfl, hb⟩
      have HB6 := Lib.hid (HB5.out.trans (hb.mono HB5.out.size))
      have hN6 : N ≤ w6.heap.size := Nat.le_trans hN5 hb.size
      have HE6 := Lib.hid (HE5.out.after hb)
      have HT6 := Lib.hid (HT5.out.after hb)
      replace VL := Lib.hid (VL.out.after hb)
      replace VM := Lib.hid (VM.out.after hb)
      clear hb
      go_wp2_with fail
      refine (Same_c _ _ _ _ _ l m VL.out VM.out).mono ?_
      rw [HQ.out]
      rintro e w7 ⟨rfl, hb⟩
      have HB7 := Lib.hid (HB6.out.trans (hb.mono HB6.out.size))
      have hN7 : N ≤ w7.heap.size := Nat.le_trans hN6 hb.size
      have HE7 := Lib.hid (HE6.out.after hb)
      have HT7 := Lib.hid (HT6.out.after hb)
      replace VL := Lib.hid (VL.out.after hb)
      replace VM := Lib.hid (VM.out.after hb)
      clear hb
      go_wp2_with fail
      refine (rSame_c _ _ _ _ _ l m VL.out VM.out).mono ?_
      rw [HQ.out]
      rintro e w8 ⟨rfl, hb⟩
      have HB8 := Lib.hid (HB7.out.trans (hb.mono HB7.out.size))
      have hN8 : N ≤ w8.heap.size := Nat.le_trans hN7 hb.size
      have HE8 := Lib.hid (HE7.out.after hb)
      have HT8 := Lib.hid (HT7.out.after hb)
      replace VL := Lib.hid (VL.out.after hb)
      replace VM := Lib.hid (VM.out.after hb)
      clear hb
      go_wp2_with fail
      refine (Same_c _ _ _ _ _ l l VL.out VL.out).mono ?_
      rw [HLL.out]
      rintro e w9 ⟨rfl, hb⟩
      have HB9 := Lib.hid (HB8.out.trans (hb.mono HB8.out.size))
      have hN9 : N ≤ w9.heap.size := Nat.le_trans hN8 hb.size
      have HE9 := Lib.hid (HE8.out.after hb)
      have HT9 := Lib.hid (HT8.out.after hb)
      replace VL := Lib.hid (VL.out.after hb)
      replace VM := Lib.hid (VM.out.after hb)
      clear hb
      go_wp2_with fail
      refine (sawake_c N _ hN9 HE9.out HT9.out).mono ?_
      rintro e w10 ⟨rfl, hb⟩
      have HB10 := Lib.hid (HB9.out.trans (hb.mono HB9.out.size))
      clear hb
      go_wp2_with fail
      go_ret
      exact ⟨rfl, HB10.out⟩
end Go.Proofs.YtganlldidjbpiaaGreatDoor
