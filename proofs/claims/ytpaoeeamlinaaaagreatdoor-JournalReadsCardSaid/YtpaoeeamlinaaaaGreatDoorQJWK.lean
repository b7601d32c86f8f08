/- Journal, walks of the law: light. It answers yes or no; which does not matter. -/
import Derived.Test.YtpaoeeamlinaaaaGreatDoorK08
set_option linter.unusedVariables false
namespace Go.Proofs.YtpaoeeamlinaaaaGreatDoor
open Go.RowKit

/-- The answer is yes or no. -/
def RetY (w : World) (e : Ending) (w' : World) : Prop := ∃ b, e = .returned (.bool b) ∧ Below w.heap.size w w'
set_option maxRecDepth 100000 in
set_option maxHeartbeats 2000000 in
theorem light_c (w : World) (v : Value) (r : Rec) (h : IsR w v r) : Calls Tryz.prog 9 #[v] w (RetY w) := by
  obtain ⟨hok, vs, va, rfl, h1, h2⟩ := h
  obtain ⟨pS, cS, rfl, _, _, _⟩ := h1.2.shape
  obtain ⟨pL, cL, rfl⟩ : ∃ pL cL, va = .slice pL r.after.length cL := by
    obtain ⟨_, k2, _⟩ := h2
    obtain ⟨a, b, e', _⟩ := k2.shape
    exact ⟨a, b, e'⟩
  obtain ⟨W0, hW⟩ : ∃ W0, W0 = w.alloc (.cells #[.int .u8 (r.kind : Int), .int .i64 r.place, .int .i64 r.id, .int .i64 r.lease, .int .u8 (r.ans : Int), .slice pS r.steps.length cS, .slice pL r.after.length cL] 29) := ⟨_, rfl⟩
  have hb0 : Below w.heap.size w W0 := by rw [hW]; exact held_alloc (Below.refl _ _)
  have hbx : Box W0 w.heap.size #[.int .u8 (r.kind : Int), .int .i64 r.place, .int .i64 r.id, .int .i64 r.lease, .int .u8 (r.ans : Int), .slice pS r.steps.length cS, .slice pL r.after.length cL] 29 := by rw [hW]; exact Box.new _ _ _
  have HB := Lib.hid hb0
  have BX := Lib.hid hbx
  have HL := Lib.hid (h2.after hb0)
  have x5 : W0.cell? ⟨w.heap.size, 5, none⟩ = some (.slice pS r.steps.length cS) := hbx.cell 5
  have x6 : W0.cell? ⟨w.heap.size, 6, none⟩ = some (.slice pL r.after.length cL) := hbx.cell 6
  have lx := hbx.lt
  clear hok h1 h2 hb0 hbx
  show Calls _ _ #[.agg #[.int .u8 (r.kind : Int), .int .i64 r.place, .int .i64 r.id, .int .i64 r.lease, .int .u8 (r.ans : Int), .slice pS r.steps.length cS, .slice pL r.after.length cL]] w _
  go_enter Tryz.func9, Tryz.ntmps9
  go_upto_region 1 with fail
  rw [← hW]
  clear hW
  go_wp2_with fail
  go_loopg [3, 4] r.after.length (fun g t3 t4 wx => ∃ (i : Nat) (z : Int), i ≤ r.after.length ∧ g = r.after.length - i ∧ i ≤ 50 ∧ t3 = .int .i64 z ∧ t4 = .int .i64 (i : Int) ∧ Hid (Below W0.heap.size W0 wx))
  case atStart => exact ⟨0, _, Nat.zero_le _, rfl, by omega, rfl, rfl, Below.refl _ _⟩
  case round =>
    clear x5 x6 lx
    obtain ⟨i, z, hi, rfl, hi50, rfl, rfl, hbl⟩ := hrel
    have x6 : wr.cell? ⟨w.heap.size, 6, none⟩ = some (.slice pL r.after.length cL) := (BX.out.after hbl.out).cell 6
    have lx := (BX.out.after hbl.out).lt
    by_cases hlt : i < r.after.length ∧ i < 50
    · obtain ⟨h1, h2⟩ := hlt
      obtain ⟨u, hu, hui⟩ := HL.out
      obtain ⟨ba, oa, ca, ea, _, _, la, hca⟩ := (hu.after hbl.out).at_ (by omega)
      injection ea with ea _ ec
      subst ea ec
      obtain ⟨pu, cu, hpu, _, _, _⟩ := (hui i h1).2.shape
      have a0 : wr.cell? ⟨ba, oa + i, none⟩ = some (.slice pu (r.after.getD i []).length cu) := by have := hca i h1 0 (by omega); rw [← hpu]; simpa using this
      have il : (i : Int) < (r.after.length : Int) := by omega
      have i50 : (i : Int) < 50 := by omega
      have i0 : (0 : Int) ≤ (i : Int) := by omega
      obtain ⟨nn, hnn⟩ : ∃ nn, (r.after.getD i []).length = nn := ⟨_, rfl⟩
      rw [hnn] at a0
      clear hca hu hui hpu hnn
      go_wp2_with fail
      go_roundg (r.after.length - (i + 1))
      case measure => omega
      case rel => exact ⟨i + 1, _, by omega, rfl, by omega, rfl, by go_num, hbl.out⟩
    · by_cases h1 : i < r.after.length
      · have il : (i : Int) < (r.after.length : Int) := by omega
        have i50 : ¬ (i : Int) < 50 := by omega
        clear hlt
        go_wp2_with fail
        all_goals go_ret
        all_goals exact ⟨_, rfl, HB.out.trans (hbl.out.mono HB.out.size)⟩
      · have il : ¬ (i : Int) < (r.after.length : Int) := by omega
        clear hlt
        go_wp2_with fail
        all_goals go_ret
        all_goals exact ⟨_, rfl, HB.out.trans (hbl.out.mono HB.out.size)⟩
end Go.Proofs.YtpaoeeamlinaaaaGreatDoor
