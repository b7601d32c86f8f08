/- Syntax, the reference: Formed. -/
import Derived.Test.YtganlldidjbpiaaGreatDoorQSyY3
set_option linter.unusedVariables false
namespace Go.Proofs.YtganlldidjbpiaaGreatDoor
open Go.RowKit Go.Shelf

set_option maxRecDepth 100000 in
set_option maxHeartbeats 8000000 in
theorem rFormed_c (D : Nat → Prop) (w : World) (v : Value) (l : List Cl) (h : SlC D w v l) : Calls Tryz.prog 18 #[v] w (RetB w (l.all formBT)) := by
  have H := Lib.hid h
  obtain ⟨p, ca, rfl, h1, h2, _⟩ := h.shape
  clear h
  obtain ⟨R, hR⟩ : ∃ R, l.all formBT = R := ⟨_, rfl⟩
  rw [hR]
  have HR := Lib.hid hR
  clear hR
  go_enter Tryz.func18, Tryz.ntmps18
  go_wp2_with fail
  go_loopg [3] l.length (fun gn ti wx => ∃ j : Nat, j ≤ l.length ∧ gn = l.length - j ∧ ti = .int .i64 (j : Int) ∧ Hid (∀ m, m < j → formBT (l.getD m cl0) = true) ∧ Hid (Below w.heap.size w wx))
  case atStart => exact ⟨0, Nat.zero_le _, rfl, rfl, fun j hj => absurd hj (by omega), Below.refl _ _⟩
  case round =>
    obtain ⟨j, hj, rfl, rfl, hsb, hbw⟩ := hrel
    by_cases hlt : j < l.length
    · obtain ⟨bi, oi, ci', ei, _, _, _, li, hci⟩ := (H.out.after hbw.out).at_ (by omega)
      injection ei with ei _ ec
      subst ei ec
      obtain ⟨vn, vi, hc, x0, x1, x2, x3, x4, x5, x6, x7⟩ := hci j hlt
      have HCALL := Lib.hid (rformed_t D wr _ vn vi hc)
      obtain ⟨x, hx⟩ : ∃ x, l.getD j cl0 = x := ⟨_, rfl⟩
      rw [hx] at x0 x2 x3 x4 x5 x7 HCALL hc
      have HXN := Lib.hid hx
      obtain ⟨qn2, cn2, rfl, _, _, _⟩ := (hasC_iff.1 hc).2.1.2.shape
      obtain ⟨qi2, ci2, rfl, _, _, _⟩ := (hasC_iff.1 hc).2.2.shape
      have il : (j : Int) < (l.length : Int) := by omega
      have i0 : (0 : Int) ≤ (j : Int) := by omega
      clear hci hx hc
      go_wp2_with fail
      refine HCALL.out.mono ?_
      rintro e w9 ⟨rfl, hb⟩
      have HBZ := Lib.hid (hbw.out.trans (hb.mono hbw.out.size))
      clear hb x0 x1 x2 x3 x4 x5 x6 x7 HCALL
      cases hq : formBT x with
      | false =>
        have HQN := Lib.hid hq
        clear hq
        have HE : Hid (R = false) := by
          show _ = _
          rw [← HR.out, List.all_eq_false]
          refine ⟨x, ?_, by rw [HQN.out]; simp⟩
          rw [← HXN.out, List.getD_eq_getElem?_getD, List.getElem?_eq_getElem hlt]; exact List.getElem_mem hlt
        go_wp2_with fail
        go_ret
        rw [HE.out]
        exact ⟨rfl, HBZ.out⟩
      | true =>
        have HQN := Lib.hid hq
        clear hq
        go_wp2_with fail
        go_roundg (l.length - (j + 1))
        case measure => omega
        case rel =>
          refine ⟨j + 1, by omega, rfl, by go_num, fun m hm => ?_, HBZ.out⟩
          rcases Nat.lt_or_ge m j with h | h
          · exact hsb.out m h
          · obtain rfl : m = j := by omega
            rw [HXN.out]; exact HQN.out
    · obtain rfl : j = l.length := by omega
      have HE : Hid (R = true) := by
        show _ = _
        rw [← HR.out, List.all_eq_true]
        intro y hy
        obtain ⟨m, hm, rfl⟩ := List.getElem_of_mem hy
        have := hsb.out m hm
        rwa [List.getD_eq_getElem?_getD, List.getElem?_eq_getElem hm] at this
      go_wp2_with fail
      go_ret
      rw [HE.out]
      exact ⟨rfl, hbw.out⟩
end Go.Proofs.YtganlldidjbpiaaGreatDoor
