/- Walks of the reference: negated, Sub. -/
import Derived.Test.YtaojdlcailpheaaQV14
set_option linter.unusedVariables false
namespace Go.Proofs.Ytaojdlcailpheaa
open Go.RowKit

theorem rturn_fr (s : Bool) (c d : Nat) : turnF (fr s c d) = fr (!s && decide (0 < c)) c d := by
  have e : decide (0 < (limbs c).length) = decide (0 < c) := by
    rw [decide_eq_decide]
    rcases Nat.eq_zero_or_pos c with h | h
    · subst h; simp [limbs_zero]
    · have := limbs_len_pos h; omega
  unfold turnF fr
  simp only [e]
theorem sub_turn {x y : F} (hx : ValidF x) (hy : ValidF y) : opF sumN x (turnF y) = opF subN x y := by
  obtain ⟨s, c, d, rfl, hok⟩ : ∃ s c d, y = fr s c d ∧ Ok s c d := ⟨_, _, _, hy.eq, hy.2.2⟩
  have hok2 : Ok (!s && decide (0 < c)) c d := ⟨hok.n32, hok.d32, hok.pos, hok.gcd, fun h => by subst h; simp⟩
  rw [rturn_fr, opF_yes ⟨hx, validF_fr.2 hok2⟩, opF_yes ⟨hx, hy⟩]
  simp only [fr, val_limbs, subN]

set_option maxRecDepth 100000 in
set_option maxHeartbeats 1000000 in
theorem negated_c (w : World) (v : Value) (x : F) (h : IsF w v x) : Calls Try.prog 71 #[v] w (RetF1 w (turnF x)) := by
  have HX := h
  obtain ⟨va, vb, rfl, ha, hb⟩ := h
  obtain ⟨p, cp, rfl, hp1, hp2⟩ := ha.shape
  obtain ⟨q, cq, rfl, hq1, hq2⟩ := hb.shape
  obtain ⟨W0, hW, bx, br, hsz, hb0⟩ := start2 w #[.bool x.neg, .slice p x.num.length cp, .slice q x.den.length cq] #[.bool false, .slice none 0 0, .slice none 0 0] 25
  obtain ⟨c0, c1, c2⟩ := bx.cells3
  obtain ⟨d0, d1, d2⟩ := br.cells3
  have f0 := bx.frozen 0
  have g0 := br.frozen 0
  have g1 := br.frozen 1
  have g2 := br.frozen 2
  have H1 := Lib.hid (ha.after hb0)
  have H2 := Lib.hid (hb.after hb0)
  have HB0 := Lib.hid hb0
  have BX := Lib.hid bx
  have BR := Lib.hid br
  have hnu : Hid (NoU #[.bool x.neg, .slice p x.num.length cp, .slice q x.den.length cq]) := NoU.three (fun _ h => by cases h) (fun _ h => by cases h) (fun _ h => by cases h)
  clear HX ha hb bx br hb0
  cases hng : x.neg with
  | true =>
    have e : Hid (turnF x = ⟨false, x.num, x.den⟩) := by show turnF x = _; unfold turnF; rw [hng]; rfl
    have HNG := Lib.hid hng
    rw [hng] at hW c0 BX hnu
    clear hng
    go_enter Try.func71, Try.ntmps71
    go_upto_region 1 with fail
    rw [← hW]
    clear hW
    go_wp2_with fail
    refine bodyPost_ret (v := .agg #[.bool false, .slice p x.num.length cp, .slice q x.den.length cq]) (by simp [results, Try.results71, go_sem, d0, d1, d2]) rfl ?_
    rw [e.out]
    have hbr := (BR.out.far (p := ⟨w.heap.size, 0, none⟩) (by simp) (.bool false))
    refine ⟨_, rfl, IsF.result hbr (fun _ h => by cases h) (fun _ h => by cases h) (H1.out.box BX.out hnu.out 0 _) (H2.out.box BX.out hnu.out 0 _), ?_⟩
    exact (((HB0.out.setCell (Nat.le_refl _) _).setCell (by simp) _).setCell (by simp) _).setCell (by simp) _
  | false =>
    rw [hng] at hW c0 BX hnu
    have HNG := Lib.hid hng
    clear hng
    rcases Nat.lt_or_ge 0 x.num.length with hl | hl
    · have e : Hid (turnF x = ⟨true, x.num, x.den⟩) := by show turnF x = _; unfold turnF; rw [HNG.out]; simp [hl]
      go_enter Try.func71, Try.ntmps71
      go_upto_region 1 with fail
      rw [← hW]
      clear hW
      go_wp2_with fail
      refine bodyPost_ret (v := .agg #[.bool true, .slice p x.num.length cp, .slice q x.den.length cq]) (by simp [results, Try.results71, go_sem, d0, d1, d2]) rfl ?_
      rw [e.out]
      have hbr := (BR.out.far (p := ⟨w.heap.size, 0, none⟩) (by simp) (.bool true))
      refine ⟨_, rfl, IsF.result hbr (fun _ h => by cases h) (fun _ h => by cases h) (H1.out.box BX.out hnu.out 0 _) (H2.out.box BX.out hnu.out 0 _), ?_⟩
      exact (((HB0.out.setCell (Nat.le_refl _) _).setCell (by simp) _).setCell (by simp) _).setCell (by simp) _
    · have hlen : x.num.length = 0 := by omega
      have e : Hid (turnF x = ⟨false, x.num, x.den⟩) := by show turnF x = _; unfold turnF; rw [HNG.out, hlen]; rfl
      rw [hlen] at hW c1 BX hnu H1
      rw [hlen]
      clear hlen hl hp1
      go_enter Try.func71, Try.ntmps71
      go_upto_region 1 with fail
      rw [← hW]
      clear hW
      go_wp2_with fail
      refine bodyPost_ret (v := .agg #[.bool false, .slice p 0 cp, .slice q x.den.length cq]) (by simp [results, Try.results71, go_sem, d0, d1, d2]) rfl ?_
      rw [e.out]
      have hbr := (BR.out.far (p := ⟨w.heap.size, 0, none⟩) (by simp) (.bool false))
      refine ⟨_, rfl, IsF.result hbr (fun _ h => by cases h) (fun _ h => by cases h) (H1.out.box BX.out hnu.out 0 _) (H2.out.box BX.out hnu.out 0 _), ?_⟩
      exact (((HB0.out.setCell (Nat.le_refl _) _).setCell (by simp) _).setCell (by simp) _).setCell (by simp) _
end Go.Proofs.Ytaojdlcailpheaa
