/- Journal, walks of the reference: numbersSame, SamePlan, Same, SameAll. -/
import Derived.Test.YtpaoeeamlinaaaaGreatDoorQJV2
set_option linter.unusedVariables false
namespace Go.Proofs.YtpaoeeamlinaaaaGreatDoor
open Go.RowKit

def RetQ (w : World) (p : Bool) (e : Ending) (w' : World) : Prop := e = .returned (.bool p) ∧ ∃ n, w' = w.drewN n
theorem RetQ.b {w : World} {p : Bool} {e : Ending} {w' : World} (h : RetQ w p e w') : RetB w p e w' := by
  obtain ⟨h1, n, rfl⟩ := h
  exact ⟨h1, below_drewN _ _ _⟩
set_option maxRecDepth 100000 in
set_option maxHeartbeats 2000000 in
theorem rNums_c (w : World) (v u : Value) (a b : List Int) (h : SlI w v a) (k : SlI w u b) : Calls Tryz.prog 46 #[v, u] w (RetB w (decide (a = b))) := by
  obtain ⟨p, c, rfl, h1, h2, _⟩ := h.2.shape
  obtain ⟨q, d, rfl, k1, k2, _⟩ := k.2.shape
  have H := Lib.hid h
  have K := Lib.hid k
  by_cases hl : a.length = b.length
  rotate_left
  · have HD : Hid (decide (a = b) = false) := decide_eq_false (fun e => hl (by rw [e]))
    have q1 : ((a.length : Int) == (b.length : Int)) = false := by rw [beq_eq_false_iff_ne]; omega
    have q2 : ((a.length : Int) != (b.length : Int)) = true := by rw [bne, q1]; rfl
    clear h k hl
    go_enter Tryz.func46, Tryz.ntmps46
    go_wp2_with fail
    go_ret
    exact ⟨by rw [HD.out]; rfl, Below.refl _ _⟩
  have HL := Lib.hid hl
  have q1 : ((a.length : Int) == (b.length : Int)) = true := by rw [beq_iff_eq]; omega
  have q2 : ((a.length : Int) != (b.length : Int)) = false := by rw [bne, q1]; rfl
  clear h k hl
  go_enter Tryz.func46, Tryz.ntmps46
  go_wp2_with fail
  go_loopg [5] a.length (fun g t wx => ∃ i : Nat, i ≤ a.length ∧ g = a.length - i ∧ t = .int .i64 (i : Int) ∧ Hid (∀ j, j < i → a.getD j 0 = b.getD j 0) ∧ Hid (Below w.heap.size w wx))
  case atStart => exact ⟨0, Nat.zero_le _, rfl, rfl, fun j hj => absurd hj (by omega), Below.refl _ _⟩
  case round =>
    obtain ⟨i, hi, rfl, rfl, heq, hbl⟩ := hrel
    by_cases hlt : i < a.length
    · obtain ⟨ba, oa, ca, ea, _, _, la, hca⟩ := (H.out.2.after hbl.out).at_ (by omega)
      obtain ⟨bb, ob, cb, eb, _, _, lb, hcb⟩ := (K.out.2.after hbl.out).at_ (by have := HL.out; omega)
      injection ea with ea _ ec
      injection eb with eb _ ed
      subst ea eb ec ed
      have hib : i < b.length := by have := HL.out; omega
      have x0 : wr.cell? ⟨ba, oa + i, none⟩ = some (.int .i64 (a.getD i 0)) := by have := hca i hlt 0 (by omega); simpa using this
      have y0 : wr.cell? ⟨bb, ob + i, none⟩ = some (.int .i64 (b.getD i 0)) := by have := hcb i hib 0 (by omega); simpa using this
      clear hca hcb
      have il : (i : Int) < (a.length : Int) := by omega
      have il2 : (i : Int) < (b.length : Int) := by omega
      have i0 : (0 : Int) ≤ (i : Int) := by omega
      have HNE : Hid (a.getD i 0 ≠ b.getD i 0 → a ≠ b) := fun hn e => hn (by rw [e])
      obtain ⟨x, hx⟩ : ∃ x, a.getD i 0 = x := ⟨_, rfl⟩
      obtain ⟨y, hy⟩ : ∃ y, b.getD i 0 = y := ⟨_, rfl⟩
      rw [hx] at x0 HNE
      rw [hy] at y0 HNE
      have HX := Lib.hid hx
      have HY := Lib.hid hy
      clear hx hy
      by_cases he : x = y
      · have p1 : (x == y) = true := by rw [beq_iff_eq]; exact he
        have p2 : (x != y) = false := by rw [bne, p1]; rfl
        have HXY := Lib.hid he
        clear he
        go_wp2_with fail
        go_quiet (fail)
        go_wp2_with fail
        go_roundg (a.length - (i + 1))
        case measure => omega
        case rel =>
          refine ⟨i + 1, by omega, rfl, by go_num, fun j hj => ?_, hbl.out.trans (below_drewN _ _ _)⟩
          rcases Nat.lt_or_ge j i with h | h
          · exact heq.out j h
          · obtain rfl : j = i := by omega
            rw [HX.out, HY.out, HXY.out]
      · have p1 : (x == y) = false := by rw [beq_eq_false_iff_ne]; exact he
        have p2 : (x != y) = true := by rw [bne, p1]; rfl
        have HD : Hid (decide (a = b) = false) := decide_eq_false (HNE.out he)
        clear he
        go_wp2_with fail
        go_quiet (fail)
        go_wp2_with fail
        go_ret
        exact ⟨by rw [HD.out]; rfl, hbl.out.trans (below_drewN _ _ _)⟩
    · obtain rfl : i = a.length := by omega
      have HD : Hid (decide (a = b) = true) := by
        refine decide_eq_true ?_
        rcases eq_or_differ 0 a b HL.out with e | ⟨j, h1, h2, _⟩
        · exact e
        · exact absurd (heq.out j h1) h2
      clear heq
      go_wp2_with fail
      go_ret
      exact ⟨by rw [HD.out]; rfl, hbl.out⟩
end Go.Proofs.YtpaoeeamlinaaaaGreatDoor
