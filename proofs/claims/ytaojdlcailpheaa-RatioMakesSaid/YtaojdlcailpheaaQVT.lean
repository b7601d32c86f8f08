/- Walks of the reference: Text. -/
import Derived.Test.YtaojdlcailpheaaQVD
set_option linter.unusedVariables false
namespace Go.Proofs.Ytaojdlcailpheaa
open Go.RowKit

set_option maxRecDepth 100000 in
set_option maxHeartbeats 2000000 in
theorem rText_fr (w : World) (v : Value) (neg : Bool) (a b : Nat) (h : IsF w v (fr neg a b)) (hok : Ok neg a b) :
    Calls Try.prog 22 #[v] w fun e w' => e = .returned (.string (if neg = true then ⟨#[45]⟩ ++ (decS a ++ ⟨#[47]⟩ ++ decS b) else decS a ++ ⟨#[47]⟩ ++ decS b)) ∧ Below w.heap.size w w' := by
  have HX := h
  obtain ⟨va, vb, rfl, h1, h2⟩ := h
  obtain ⟨p, cp, rfl, _, _⟩ := h1.shape
  obtain ⟨q, cq, rfl, _, _⟩ := h2.shape
  obtain ⟨W0, hW, bx, hsz, hb0⟩ : ∃ W0, W0 = w.alloc (.cells #[.bool (fr neg a b).neg, .slice p (fr neg a b).num.length cp, .slice q (fr neg a b).den.length cq] 25) ∧ Box W0 w.heap.size #[.bool (fr neg a b).neg, .slice p (fr neg a b).num.length cp, .slice q (fr neg a b).den.length cq] 25 ∧ w.heap.size < W0.heap.size ∧ Below w.heap.size w W0 :=
    ⟨_, rfl, Box.new w _ _, by simp, (Below.refl _ w).alloc (Nat.le_refl _) _⟩
  obtain ⟨c0, c1, c2⟩ := bx.cells3
  have H0 := Lib.hid (HX.after hb0)
  have H1 : Hid (Sl W0 (.slice p (fr neg a b).num.length cp) (limbs a)) := h1.after hb0
  have H2 : Hid (Sl W0 (.slice q (fr neg a b).den.length cq) (limbs b)) := h2.after hb0
  have HB0 := Lib.hid hb0
  have BX := Lib.hid bx
  have hla : (limbs a).length ≤ 1000 := Nat.le_trans hok.n32 (by omega)
  have hlb : (limbs b).length ≤ 1000 := Nat.le_trans hok.d32 (by omega)
  have hsa := decS_size hla
  have hsb := decS_size hlb
  have HV := Lib.hid (validF_fr.2 hok)
  have t1 : (decS a).size + 1 ≤ 9223372036854775807 := by omega
  have t2 : (decS a).size + 1 + (decS b).size ≤ 9223372036854775807 := by omega
  have t3 : 1 + ((decS a).size + 1 + (decS b).size) ≤ 9223372036854775807 := by omega
  clear HX bx hb0 h1 h2
  cases neg with
  | true =>
    go_enter Try.func22, Try.ntmps22
    go_upto_region 1 with fail
    rw [← hW]
    clear hW
    go_wp2_with fail
    refine (RValid_c _ _ _ H0.out).mono ?_
    intro e w1 hr
    obtain ⟨rfl, hb1⟩ := hr.yes HV.out
    have mkS : Hid (∀ w', Below w1.heap.size w1 w' → w'.cell? ⟨w.heap.size, 0, none⟩ = some (.bool true) ∧ w'.cell? ⟨w.heap.size, 1, none⟩ = some (.slice p (fr true a b).num.length cp) ∧ w'.cell? ⟨w.heap.size, 2, none⟩ = some (.slice q (fr true a b).den.length cq)) :=
      fun w' hb => ((BX.out.after hb1).after hb).cells3
    have K1 := Lib.hid (H1.out.after hb1)
    have K2 := Lib.hid (H2.out.after hb1)
    have HB1 := Lib.hid (HB0.out.trans (hb1.mono HB0.out.size))
    clear hr hb1 c0 c1 c2 H0 H1 H2 BX
    go_upto_region 3 with fail
    obtain ⟨c0, c1, c2⟩ := mkS.out _ (Below.refl _ _)
    go_region_with (first
       | (go_at_call_of 64 p; refine (rDecimal_c _ _ a ?_ hla).mono ?_; exact K1.out.after (below_dr (Below.refl _ w1)); rintro e wa ⟨rfl, hb⟩; have hk1 := below_of_drew hb; obtain ⟨c3, c4, c5⟩ := mkS.out _ hk1)
       | (go_at_call_of 64 q; refine (rDecimal_c _ _ b ?_ hlb).mono ?_; exact K2.out.after hk1; rintro e wb ⟨rfl, hb2⟩; have hk2 := hk1.trans (hb2.mono hk1.size))
       | (fail))
    all_goals
      (obtain ⟨d0, d1, d2⟩ := mkS.out _ hk2
       have HB2 := Lib.hid (HB1.out.trans (hk2.mono HB1.out.size))
       clear hk1 hk2 hb hb2 mkS c0 c1 c2 c3 c4 c5
       go_wp2_with fail
       all_goals
         (go_ret
          exact ⟨rfl, HB2.out⟩))
  | false =>
    go_enter Try.func22, Try.ntmps22
    go_upto_region 1 with fail
    rw [← hW]
    clear hW
    go_wp2_with fail
    refine (RValid_c _ _ _ H0.out).mono ?_
    intro e w1 hr
    obtain ⟨rfl, hb1⟩ := hr.yes HV.out
    have mkS : Hid (∀ w', Below w1.heap.size w1 w' → w'.cell? ⟨w.heap.size, 0, none⟩ = some (.bool false) ∧ w'.cell? ⟨w.heap.size, 1, none⟩ = some (.slice p (fr false a b).num.length cp) ∧ w'.cell? ⟨w.heap.size, 2, none⟩ = some (.slice q (fr false a b).den.length cq)) :=
      fun w' hb => ((BX.out.after hb1).after hb).cells3
    have K1 := Lib.hid (H1.out.after hb1)
    have K2 := Lib.hid (H2.out.after hb1)
    have HB1 := Lib.hid (HB0.out.trans (hb1.mono HB0.out.size))
    clear hr hb1 c0 c1 c2 H0 H1 H2 BX
    go_upto_region 3 with fail
    obtain ⟨c0, c1, c2⟩ := mkS.out _ (Below.refl _ _)
    go_region_with (first
       | (go_at_call_of 64 p; refine (rDecimal_c _ _ a ?_ hla).mono ?_; exact K1.out.after (below_dr (Below.refl _ w1)); rintro e wa ⟨rfl, hb⟩; have hk1 := below_of_drew hb; obtain ⟨c3, c4, c5⟩ := mkS.out _ hk1)
       | (go_at_call_of 64 q; refine (rDecimal_c _ _ b ?_ hlb).mono ?_; exact K2.out.after hk1; rintro e wb ⟨rfl, hb2⟩; have hk2 := hk1.trans (hb2.mono hk1.size))
       | (fail))
    all_goals
      (obtain ⟨d0, d1, d2⟩ := mkS.out _ hk2
       have HB2 := Lib.hid (HB1.out.trans (hk2.mono HB1.out.size))
       clear hk1 hk2 hb hb2 mkS c0 c1 c2 c3 c4 c5
       go_wp2_with fail
       all_goals
         (go_ret
          exact ⟨rfl, HB2.out⟩))
set_option maxRecDepth 100000 in
set_option maxHeartbeats 2000000 in
theorem rText_c (w : World) (v : Value) (x : F) (h : IsF w v x) : Calls Try.prog 22 #[v] w fun e w' => e = .returned (.string (textX x)) ∧ Below w.heap.size w w' := by
  by_cases hv : ValidF x
  · obtain ⟨s, a, b, rfl, hok⟩ : ∃ s a b, x = fr s a b ∧ Ok s a b := ⟨_, _, _, hv.eq, hv.2.2⟩
    refine (rText_fr w v s a b h hok).mono ?_
    rintro e w' ⟨rfl, hb⟩
    exact ⟨by rw [textX_fr hok, textL_bs], hb⟩
  · have HV := Lib.hid hv
    have HT := Lib.hid (textX_no hv)
    have HX := h
    obtain ⟨va, vb, rfl, h1, h2⟩ := h
    obtain ⟨p, cp, rfl, _, _⟩ := h1.shape
    obtain ⟨q, cq, rfl, _, _⟩ := h2.shape
    obtain ⟨W0, hW⟩ : ∃ W0, W0 = w.alloc (.cells #[.bool x.neg, .slice p x.num.length cp, .slice q x.den.length cq] 25) := ⟨_, rfl⟩
    have hb0 : Below w.heap.size w W0 := hW ▸ held_alloc (Below.refl _ w)
    have bx : Box W0 w.heap.size #[.bool x.neg, .slice p x.num.length cp, .slice q x.den.length cq] 25 := hW ▸ Box.new w _ _
    obtain ⟨c0, c1, c2⟩ := bx.cells3
    have hlx := bx.lt
    have H0 := Lib.hid (HX.after hb0)
    have HB0 := Lib.hid hb0
    clear HX hb0 h1 h2 bx hv
    obtain ⟨T, hT⟩ : ∃ T, textX x = T := ⟨_, rfl⟩
    rw [hT] at HT ⊢
    clear hT
    go_enter Try.func22, Try.ntmps22
    go_upto_region 1 with fail
    rw [← hW]
    clear hW
    go_wp2_with fail
    refine (RValid_c _ _ _ H0.out).mono ?_
    intro e w1 hr
    obtain ⟨rfl, hb1⟩ := hr.no HV.out
    have HB1 := Lib.hid (HB0.out.trans (hb1.mono HB0.out.size))
    clear hr hb1 c0 c1 c2 hlx
    go_wp2_with fail
    go_ret
    rw [HT.out]
    exact ⟨rfl, HB1.out⟩

end Go.Proofs.Ytaojdlcailpheaa
