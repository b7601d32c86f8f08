/- Journal, walks of the reference: numbers of plans, and of all kinds. -/
import Derived.Test.YtpaoeeamlinaaaaGreatDoorQJV6
set_option linter.unusedVariables false
namespace Go.Proofs.YtpaoeeamlinaaaaGreatDoor
open Go.RowKit
set_option maxRecDepth 100000 in
set_option maxHeartbeats 2000000 in
theorem rNumbers_1a (w : World) (v : Value) (r : Rec) (h : IsR w v r) (hk : r.kind = 1) (hs : r.steps ≠ []) : Calls Tryz.prog 30 #[v] w (RetN w r) := by
  obtain ⟨hok, vs, va, rfl, h1, h2⟩ := h
  obtain ⟨pS, cS, rfl, _, _, _⟩ := h1.2.shape
  obtain ⟨pL, cL, rfl⟩ : ∃ pL cL, va = .slice pL r.after.length cL := by
    obtain ⟨_, k2, _⟩ := h2
    obtain ⟨a, b, e', _⟩ := k2.shape
    exact ⟨a, b, e'⟩
  obtain ⟨W0, hW⟩ : ∃ W0, W0 = w.alloc (.cells #[.int .u8 (r.kind : Int), .int .i64 r.place, .int .i64 r.id, .int .i64 r.lease, .int .u8 (r.ans : Int), .slice pS r.steps.length cS, .slice pL r.after.length cL] 29) := ⟨_, rfl⟩
  have hb0 : Below w.heap.size w W0 := by rw [hW]; exact held_alloc (Below.refl _ _)
  have hbx : Box W0 w.heap.size #[.int .u8 (r.kind : Int), .int .i64 r.place, .int .i64 r.id, .int .i64 r.lease, .int .u8 (r.ans : Int), .slice pS r.steps.length cS, .slice pL r.after.length cL] 29 := by rw [hW]; exact Box.new _ _ _
  have HOK := Lib.hid hok
  have H1 := Lib.hid (h1.after hb0)
  have H2 := Lib.hid (h2.after hb0)
  have HB := Lib.hid hb0
  have BX := Lib.hid hbx
  have x0 : W0.cell? ⟨w.heap.size, 0, none⟩ = some (.int .u8 (r.kind : Int)) := hbx.cell 0
  have x1 : W0.cell? ⟨w.heap.size, 1, none⟩ = some (.int .i64 r.place) := hbx.cell 1
  have x2 : W0.cell? ⟨w.heap.size, 2, none⟩ = some (.int .i64 r.id) := hbx.cell 2
  have x3 : W0.cell? ⟨w.heap.size, 3, none⟩ = some (.int .i64 r.lease) := hbx.cell 3
  have x4 : W0.cell? ⟨w.heap.size, 4, none⟩ = some (.int .u8 (r.ans : Int)) := hbx.cell 4
  have x5 : W0.cell? ⟨w.heap.size, 5, none⟩ = some (.slice pS r.steps.length cS) := hbx.cell 5
  have x6 : W0.cell? ⟨w.heap.size, 6, none⟩ = some (.slice pL r.after.length cL) := hbx.cell 6
  have lx := hbx.lt
  clear hok h1 h2 hb0 hbx
  show Calls _ _ #[.agg #[.int .u8 (r.kind : Int), .int .i64 r.place, .int .i64 r.id, .int .i64 r.lease, .int .u8 (r.ans : Int), .slice pS r.steps.length cS, .slice pL r.after.length cL]] w _
  have k1 : ((r.kind : Int) == 1) = true := by rw [beq_iff_eq]; omega
  have hs0 : 0 < r.steps.length := List.length_pos_iff.2 hs
  have b1 : ((r.steps.length : Int) == 0) = false := by rw [beq_eq_false_iff_ne]; omega
  clear hs hs0
  have HN := Lib.hid (nums_1 hk)
  have HK := Lib.hid hk
  by_cases cp : r.place = 0
  rotate_left
  · have HBR : Hid (Bare r ↔ false = true ∧ ∀ a ∈ r.after, a.length ≤ 12) := (show _ ↔ _ from ⟨fun e => absurd ((bare_1 hk).1 e).1.1 cp, fun e => absurd e.1 (by simp)⟩)
    have q1 : (r.place == 0) = false := by rw [beq_eq_false_iff_ne]; omega
    clear hk cp
    go_enter Tryz.func30, Tryz.ntmps30
    go_upto_region 1 with fail
    rw [← hW]
    clear hW
    go_wp2_with fail
    go_loopg [5, 6] r.after.length (fun g o t wx => ∃ (i : Nat) (b : Bool), i ≤ r.after.length ∧ g = r.after.length - i ∧ o = .bool b ∧ t = .int .i64 (i : Int) ∧ Hid (b = true ↔ false = true ∧ ∀ j, j < i → (r.after.getD j []).length ≤ 12) ∧ Hid (Below W0.heap.size W0 wx))
    case atStart => exact ⟨0, _, Nat.zero_le _, rfl, rfl, rfl, (show _ ↔ _ from ⟨fun h => ⟨h, fun j hj => absurd hj (by omega)⟩, fun h => h.1⟩), Below.refl _ _⟩
    case round =>
      clear x0 x1 x2 x3 x4 x5 x6 lx
      obtain ⟨i, b, hi, rfl, rfl, rfl, hb, hbl⟩ := hrel
      have x5 : wr.cell? ⟨w.heap.size, 5, none⟩ = some (.slice pS r.steps.length cS) := (BX.out.after hbl.out).cell 5
      have x6 : wr.cell? ⟨w.heap.size, 6, none⟩ = some (.slice pL r.after.length cL) := (BX.out.after hbl.out).cell 6
      have lx := (BX.out.after hbl.out).lt
      by_cases hlt : i < r.after.length
      · obtain ⟨u, hu, hui⟩ := H2.out
        obtain ⟨ba, oa, ca, ea, _, _, la, hca⟩ := (hu.after hbl.out).at_ (by omega)
        injection ea with ea _ ec
        subst ea ec
        obtain ⟨pu, cu, hpu, _, _, _⟩ := (hui i hlt).2.shape
        have a0 : wr.cell? ⟨ba, oa + i, none⟩ = some (.slice pu (r.after.getD i []).length cu) := by have := hca i hlt 0 (by omega); rw [← hpu]; simpa using this
        have il : (i : Int) < (r.after.length : Int) := by omega
        have i0 : (0 : Int) ≤ (i : Int) := by omega
        clear hca hu hui hpu
        cases b with
        | false =>
          go_wp2_with fail
          go_roundg (r.after.length - (i + 1))
          case measure => omega
          case rel =>
            refine ⟨i + 1, false, by omega, rfl, rfl, by go_num, ?_, hbl.out⟩
            show _ ↔ _
            refine ⟨fun h => absurd h (by simp), fun h => hb.out.2 ⟨h.1, fun j hj => h.2 j (by omega)⟩⟩
        | true =>
          by_cases hle : (r.after.getD i []).length ≤ 12
          · have e1 : decide (((r.after.getD i []).length : Int) ≤ 12) = true := decide_eq_true (by omega)
            have e1z : ((r.after.getD i []).length : Int) ≤ 12 := by omega
            have HLE := Lib.hid hle
            obtain ⟨nn, hnn⟩ : ∃ nn, (r.after.getD i []).length = nn := ⟨_, rfl⟩
            rw [hnn] at a0 e1 e1z
            clear hle hnn
            go_wp2_with fail
            go_roundg (r.after.length - (i + 1))
            case measure => omega
            case rel =>
              refine ⟨i + 1, true, by omega, rfl, rfl, by go_num, ?_, hbl.out⟩
              show _ ↔ _
              refine ⟨fun _ => ⟨(hb.out.1 (by simp)).1, fun j hj => ?_⟩, fun _ => rfl⟩
              rcases Nat.lt_or_ge j i with h | h
              · exact (hb.out.1 (by simp)).2 j h
              · obtain rfl : j = i := by omega
                exact HLE.out
          · have e1 : decide (((r.after.getD i []).length : Int) ≤ 12) = false := decide_eq_false (by omega)
            have e1z : ¬ ((r.after.getD i []).length : Int) ≤ 12 := by omega
            have HLE := Lib.hid hle
            obtain ⟨nn, hnn⟩ : ∃ nn, (r.after.getD i []).length = nn := ⟨_, rfl⟩
            rw [hnn] at a0 e1 e1z
            clear hle hnn
            go_wp2_with fail
            go_roundg (r.after.length - (i + 1))
            case measure => omega
            case rel =>
              refine ⟨i + 1, false, by omega, rfl, rfl, by go_num, ?_, hbl.out⟩
              show _ ↔ _
              exact ⟨fun h => absurd h (by simp), fun h => absurd (h.2 i (by omega)) HLE.out⟩
      · obtain rfl : i = r.after.length := by omega
        have HBB : Hid (b = true ↔ Bare r) := by
          show _ ↔ _
          rw [hb.out, HBR.out]
          refine and_congr_right fun _ => ⟨fun h a ha => ?_, fun h j hj => ?_⟩
          · obtain ⟨j, hj, rfl⟩ := List.mem_iff_getElem.1 ha
            have := h j hj
            rw [List.getD_eq_getElem?_getD, List.getElem?_eq_getElem hj] at this
            exact this
          · rw [List.getD_eq_getElem?_getD, List.getElem?_eq_getElem hj]
            exact h _ (List.getElem_mem hj)
        clear hb hlt
        cases b with
        | false =>
          have HP : Hid ((1 ≤ r.kind ∧ r.kind ≤ 5) → false = decide (Bare r)) := fun _ => (decide_eq_false (fun e => by have := HBB.out.2 e; cases this)).symm
          go_wp2_with fail
          go_ret2
          exact ⟨_, _, rfl, HP.out, fun h => absurd (HBB.out.2 h) (by simp), HB.out.trans (hbl.out.mono HB.out.size)⟩
        | true =>
          have HP : Hid ((1 ≤ r.kind ∧ r.kind ≤ 5) → true = decide (Bare r)) := fun _ => (decide_eq_true (HBB.out.1 rfl)).symm
          have HBA := Lib.hid ((bare_1 HK.out).1 (HBB.out.1 rfl))
          go_wp2_with fail
          refine (rPlanned_c wr _ _ r.steps r.after (H1.out.after hbl.out) (H2.out.after hbl.out) HBA.out.2.1 (by rw [HBA.out.2.2.1]; exact HBA.out.2.1) HBA.out.2.2.2).mono ?_
          rintro e w11 ⟨v, rfl, hv, hb11⟩
          have HV := Lib.hid hv.sl
          have HB11 : Hid (Below w.heap.size w w11) := HB.out.trans ((hbl.out.trans (hb11.mono hbl.out.size)).mono HB.out.size)
          clear hv hb11
          go_wp2_with fail
          go_ret2
          exact ⟨_, _, rfl, HP.out, fun _ => by rw [HN.out]; exact HV.out, HB11.out⟩
  by_cases ci : r.id = 0
  rotate_left
  · have HBR : Hid (Bare r ↔ false = true ∧ ∀ a ∈ r.after, a.length ≤ 12) := (show _ ↔ _ from ⟨fun e => absurd ((bare_1 hk).1 e).1.2.1 ci, fun e => absurd e.1 (by simp)⟩)
    have q2 : (r.id == 0) = false := by rw [beq_eq_false_iff_ne]; omega
    have q1 : (r.place == 0) = true := by rw [beq_iff_eq]; omega
    clear hk cp ci
    go_enter Tryz.func30, Tryz.ntmps30
    go_upto_region 1 with fail
    rw [← hW]
    clear hW
    go_wp2_with fail
    go_loopg [5, 6] r.after.length (fun g o t wx => ∃ (i : Nat) (b : Bool), i ≤ r.after.length ∧ g = r.after.length - i ∧ o = .bool b ∧ t = .int .i64 (i : Int) ∧ Hid (b = true ↔ false = true ∧ ∀ j, j < i → (r.after.getD j []).length ≤ 12) ∧ Hid (Below W0.heap.size W0 wx))
    case atStart => exact ⟨0, _, Nat.zero_le _, rfl, rfl, rfl, (show _ ↔ _ from ⟨fun h => ⟨h, fun j hj => absurd hj (by omega)⟩, fun h => h.1⟩), Below.refl _ _⟩
    case round =>
      clear x0 x1 x2 x3 x4 x5 x6 lx
      obtain ⟨i, b, hi, rfl, rfl, rfl, hb, hbl⟩ := hrel
      have x5 : wr.cell? ⟨w.heap.size, 5, none⟩ = some (.slice pS r.steps.length cS) := (BX.out.after hbl.out).cell 5
      have x6 : wr.cell? ⟨w.heap.size, 6, none⟩ = some (.slice pL r.after.length cL) := (BX.out.after hbl.out).cell 6
      have lx := (BX.out.after hbl.out).lt
      by_cases hlt : i < r.after.length
      · obtain ⟨u, hu, hui⟩ := H2.out
        obtain ⟨ba, oa, ca, ea, _, _, la, hca⟩ := (hu.after hbl.out).at_ (by omega)
        injection ea with ea _ ec
        subst ea ec
        obtain ⟨pu, cu, hpu, _, _, _⟩ := (hui i hlt).2.shape
        have a0 : wr.cell? ⟨ba, oa + i, none⟩ = some (.slice pu (r.after.getD i []).length cu) := by have := hca i hlt 0 (by omega); rw [← hpu]; simpa using this
        have il : (i : Int) < (r.after.length : Int) := by omega
        have i0 : (0 : Int) ≤ (i : Int) := by omega
        clear hca hu hui hpu
        cases b with
        | false =>
          go_wp2_with fail
          go_roundg (r.after.length - (i + 1))
          case measure => omega
          case rel =>
            refine ⟨i + 1, false, by omega, rfl, rfl, by go_num, ?_, hbl.out⟩
            show _ ↔ _
            refine ⟨fun h => absurd h (by simp), fun h => hb.out.2 ⟨h.1, fun j hj => h.2 j (by omega)⟩⟩
        | true =>
          by_cases hle : (r.after.getD i []).length ≤ 12
          · have e1 : decide (((r.after.getD i []).length : Int) ≤ 12) = true := decide_eq_true (by omega)
            have e1z : ((r.after.getD i []).length : Int) ≤ 12 := by omega
            have HLE := Lib.hid hle
            obtain ⟨nn, hnn⟩ : ∃ nn, (r.after.getD i []).length = nn := ⟨_, rfl⟩
            rw [hnn] at a0 e1 e1z
            clear hle hnn
            go_wp2_with fail
            go_roundg (r.after.length - (i + 1))
            case measure => omega
            case rel =>
              refine ⟨i + 1, true, by omega, rfl, rfl, by go_num, ?_, hbl.out⟩
              show _ ↔ _
              refine ⟨fun _ => ⟨(hb.out.1 (by simp)).1, fun j hj => ?_⟩, fun _ => rfl⟩
              rcases Nat.lt_or_ge j i with h | h
              · exact (hb.out.1 (by simp)).2 j h
              · obtain rfl : j = i := by omega
                exact HLE.out
          · have e1 : decide (((r.after.getD i []).length : Int) ≤ 12) = false := decide_eq_false (by omega)
            have e1z : ¬ ((r.after.getD i []).length : Int) ≤ 12 := by omega
            have HLE := Lib.hid hle
            obtain ⟨nn, hnn⟩ : ∃ nn, (r.after.getD i []).length = nn := ⟨_, rfl⟩
            rw [hnn] at a0 e1 e1z
            clear hle hnn
            go_wp2_with fail
            go_roundg (r.after.length - (i + 1))
            case measure => omega
            case rel =>
              refine ⟨i + 1, false, by omega, rfl, rfl, by go_num, ?_, hbl.out⟩
              show _ ↔ _
              exact ⟨fun h => absurd h (by simp), fun h => absurd (h.2 i (by omega)) HLE.out⟩
      · obtain rfl : i = r.after.length := by omega
        have HBB : Hid (b = true ↔ Bare r) := by
          show _ ↔ _
          rw [hb.out, HBR.out]
          refine and_congr_right fun _ => ⟨fun h a ha => ?_, fun h j hj => ?_⟩
          · obtain ⟨j, hj, rfl⟩ := List.mem_iff_getElem.1 ha
            have := h j hj
            rw [List.getD_eq_getElem?_getD, List.getElem?_eq_getElem hj] at this
            exact this
          · rw [List.getD_eq_getElem?_getD, List.getElem?_eq_getElem hj]
            exact h _ (List.getElem_mem hj)
        clear hb hlt
        cases b with
        | false =>
          have HP : Hid ((1 ≤ r.kind ∧ r.kind ≤ 5) → false = decide (Bare r)) := fun _ => (decide_eq_false (fun e => by have := HBB.out.2 e; cases this)).symm
          go_wp2_with fail
          go_ret2
          exact ⟨_, _, rfl, HP.out, fun h => absurd (HBB.out.2 h) (by simp), HB.out.trans (hbl.out.mono HB.out.size)⟩
        | true =>
          have HP : Hid ((1 ≤ r.kind ∧ r.kind ≤ 5) → true = decide (Bare r)) := fun _ => (decide_eq_true (HBB.out.1 rfl)).symm
          have HBA := Lib.hid ((bare_1 HK.out).1 (HBB.out.1 rfl))
          go_wp2_with fail
          refine (rPlanned_c wr _ _ r.steps r.after (H1.out.after hbl.out) (H2.out.after hbl.out) HBA.out.2.1 (by rw [HBA.out.2.2.1]; exact HBA.out.2.1) HBA.out.2.2.2).mono ?_
          rintro e w11 ⟨v, rfl, hv, hb11⟩
          have HV := Lib.hid hv.sl
          have HB11 : Hid (Below w.heap.size w w11) := HB.out.trans ((hbl.out.trans (hb11.mono hbl.out.size)).mono HB.out.size)
          clear hv hb11
          go_wp2_with fail
          go_ret2
          exact ⟨_, _, rfl, HP.out, fun _ => by rw [HN.out]; exact HV.out, HB11.out⟩
  by_cases cl : r.lease = 0
  rotate_left
  · have HBR : Hid (Bare r ↔ false = true ∧ ∀ a ∈ r.after, a.length ≤ 12) := (show _ ↔ _ from ⟨fun e => absurd ((bare_1 hk).1 e).1.2.2.1 cl, fun e => absurd e.1 (by simp)⟩)
    have q3 : (r.lease == 0) = false := by rw [beq_eq_false_iff_ne]; omega
    have q1 : (r.place == 0) = true := by rw [beq_iff_eq]; omega
    have q2 : (r.id == 0) = true := by rw [beq_iff_eq]; omega
    clear hk cp ci cl
    go_enter Tryz.func30, Tryz.ntmps30
    go_upto_region 1 with fail
    rw [← hW]
    clear hW
    go_wp2_with fail
    go_loopg [5, 6] r.after.length (fun g o t wx => ∃ (i : Nat) (b : Bool), i ≤ r.after.length ∧ g = r.after.length - i ∧ o = .bool b ∧ t = .int .i64 (i : Int) ∧ Hid (b = true ↔ false = true ∧ ∀ j, j < i → (r.after.getD j []).length ≤ 12) ∧ Hid (Below W0.heap.size W0 wx))
    case atStart => exact ⟨0, _, Nat.zero_le _, rfl, rfl, rfl, (show _ ↔ _ from ⟨fun h => ⟨h, fun j hj => absurd hj (by omega)⟩, fun h => h.1⟩), Below.refl _ _⟩
    case round =>
      clear x0 x1 x2 x3 x4 x5 x6 lx
      obtain ⟨i, b, hi, rfl, rfl, rfl, hb, hbl⟩ := hrel
      have x5 : wr.cell? ⟨w.heap.size, 5, none⟩ = some (.slice pS r.steps.length cS) := (BX.out.after hbl.out).cell 5
      have x6 : wr.cell? ⟨w.heap.size, 6, none⟩ = some (.slice pL r.after.length cL) := (BX.out.after hbl.out).cell 6
      have lx := (BX.out.after hbl.out).lt
      by_cases hlt : i < r.after.length
      · obtain ⟨u, hu, hui⟩ := H2.out
        obtain ⟨ba, oa, ca, ea, _, _, la, hca⟩ := (hu.after hbl.out).at_ (by omega)
        injection ea with ea _ ec
        subst ea ec
        obtain ⟨pu, cu, hpu, _, _, _⟩ := (hui i hlt).2.shape
        have a0 : wr.cell? ⟨ba, oa + i, none⟩ = some (.slice pu (r.after.getD i []).length cu) := by have := hca i hlt 0 (by omega); rw [← hpu]; simpa using this
        have il : (i : Int) < (r.after.length : Int) := by omega
        have i0 : (0 : Int) ≤ (i : Int) := by omega
        clear hca hu hui hpu
        cases b with
        | false =>
          go_wp2_with fail
          go_roundg (r.after.length - (i + 1))
          case measure => omega
          case rel =>
            refine ⟨i + 1, false, by omega, rfl, rfl, by go_num, ?_, hbl.out⟩
            show _ ↔ _
            refine ⟨fun h => absurd h (by simp), fun h => hb.out.2 ⟨h.1, fun j hj => h.2 j (by omega)⟩⟩
        | true =>
          by_cases hle : (r.after.getD i []).length ≤ 12
          · have e1 : decide (((r.after.getD i []).length : Int) ≤ 12) = true := decide_eq_true (by omega)
            have e1z : ((r.after.getD i []).length : Int) ≤ 12 := by omega
            have HLE := Lib.hid hle
            obtain ⟨nn, hnn⟩ : ∃ nn, (r.after.getD i []).length = nn := ⟨_, rfl⟩
            rw [hnn] at a0 e1 e1z
            clear hle hnn
            go_wp2_with fail
            go_roundg (r.after.length - (i + 1))
            case measure => omega
            case rel =>
              refine ⟨i + 1, true, by omega, rfl, rfl, by go_num, ?_, hbl.out⟩
              show _ ↔ _
              refine ⟨fun _ => ⟨(hb.out.1 (by simp)).1, fun j hj => ?_⟩, fun _ => rfl⟩
              rcases Nat.lt_or_ge j i with h | h
              · exact (hb.out.1 (by simp)).2 j h
              · obtain rfl : j = i := by omega
                exact HLE.out
          · have e1 : decide (((r.after.getD i []).length : Int) ≤ 12) = false := decide_eq_false (by omega)
            have e1z : ¬ ((r.after.getD i []).length : Int) ≤ 12 := by omega
            have HLE := Lib.hid hle
            obtain ⟨nn, hnn⟩ : ∃ nn, (r.after.getD i []).length = nn := ⟨_, rfl⟩
            rw [hnn] at a0 e1 e1z
            clear hle hnn
            go_wp2_with fail
            go_roundg (r.after.length - (i + 1))
            case measure => omega
            case rel =>
              refine ⟨i + 1, false, by omega, rfl, rfl, by go_num, ?_, hbl.out⟩
              show _ ↔ _
              exact ⟨fun h => absurd h (by simp), fun h => absurd (h.2 i (by omega)) HLE.out⟩
      · obtain rfl : i = r.after.length := by omega
        have HBB : Hid (b = true ↔ Bare r) := by
          show _ ↔ _
          rw [hb.out, HBR.out]
          refine and_congr_right fun _ => ⟨fun h a ha => ?_, fun h j hj => ?_⟩
          · obtain ⟨j, hj, rfl⟩ := List.mem_iff_getElem.1 ha
            have := h j hj
            rw [List.getD_eq_getElem?_getD, List.getElem?_eq_getElem hj] at this
            exact this
          · rw [List.getD_eq_getElem?_getD, List.getElem?_eq_getElem hj]
            exact h _ (List.getElem_mem hj)
        clear hb hlt
        cases b with
        | false =>
          have HP : Hid ((1 ≤ r.kind ∧ r.kind ≤ 5) → false = decide (Bare r)) := fun _ => (decide_eq_false (fun e => by have := HBB.out.2 e; cases this)).symm
          go_wp2_with fail
          go_ret2
          exact ⟨_, _, rfl, HP.out, fun h => absurd (HBB.out.2 h) (by simp), HB.out.trans (hbl.out.mono HB.out.size)⟩
        | true =>
          have HP : Hid ((1 ≤ r.kind ∧ r.kind ≤ 5) → true = decide (Bare r)) := fun _ => (decide_eq_true (HBB.out.1 rfl)).symm
          have HBA := Lib.hid ((bare_1 HK.out).1 (HBB.out.1 rfl))
          go_wp2_with fail
          refine (rPlanned_c wr _ _ r.steps r.after (H1.out.after hbl.out) (H2.out.after hbl.out) HBA.out.2.1 (by rw [HBA.out.2.2.1]; exact HBA.out.2.1) HBA.out.2.2.2).mono ?_
          rintro e w11 ⟨v, rfl, hv, hb11⟩
          have HV := Lib.hid hv.sl
          have HB11 : Hid (Below w.heap.size w w11) := HB.out.trans ((hbl.out.trans (hb11.mono hbl.out.size)).mono HB.out.size)
          clear hv hb11
          go_wp2_with fail
          go_ret2
          exact ⟨_, _, rfl, HP.out, fun _ => by rw [HN.out]; exact HV.out, HB11.out⟩
  by_cases ca : r.ans = 0
  rotate_left
  · have HBR : Hid (Bare r ↔ false = true ∧ ∀ a ∈ r.after, a.length ≤ 12) := (show _ ↔ _ from ⟨fun e => absurd ((bare_1 hk).1 e).1.2.2.2 ca, fun e => absurd e.1 (by simp)⟩)
    have q4 : ((r.ans : Int) == 0) = false := by rw [beq_eq_false_iff_ne]; omega
    have q1 : (r.place == 0) = true := by rw [beq_iff_eq]; omega
    have q2 : (r.id == 0) = true := by rw [beq_iff_eq]; omega
    have q3 : (r.lease == 0) = true := by rw [beq_iff_eq]; omega
    clear hk cp ci cl ca
    go_enter Tryz.func30, Tryz.ntmps30
    go_upto_region 1 with fail
    rw [← hW]
    clear hW
    go_wp2_with fail
    go_loopg [5, 6] r.after.length (fun g o t wx => ∃ (i : Nat) (b : Bool), i ≤ r.after.length ∧ g = r.after.length - i ∧ o = .bool b ∧ t = .int .i64 (i : Int) ∧ Hid (b = true ↔ false = true ∧ ∀ j, j < i → (r.after.getD j []).length ≤ 12) ∧ Hid (Below W0.heap.size W0 wx))
    case atStart => exact ⟨0, _, Nat.zero_le _, rfl, rfl, rfl, (show _ ↔ _ from ⟨fun h => ⟨h, fun j hj => absurd hj (by omega)⟩, fun h => h.1⟩), Below.refl _ _⟩
    case round =>
      clear x0 x1 x2 x3 x4 x5 x6 lx
      obtain ⟨i, b, hi, rfl, rfl, rfl, hb, hbl⟩ := hrel
      have x5 : wr.cell? ⟨w.heap.size, 5, none⟩ = some (.slice pS r.steps.length cS) := (BX.out.after hbl.out).cell 5
      have x6 : wr.cell? ⟨w.heap.size, 6, none⟩ = some (.slice pL r.after.length cL) := (BX.out.after hbl.out).cell 6
      have lx := (BX.out.after hbl.out).lt
      by_cases hlt : i < r.after.length
      · obtain ⟨u, hu, hui⟩ := H2.out
        obtain ⟨ba, oa, ca, ea, _, _, la, hca⟩ := (hu.after hbl.out).at_ (by omega)
        injection ea with ea _ ec
        subst ea ec
        obtain ⟨pu, cu, hpu, _, _, _⟩ := (hui i hlt).2.shape
        have a0 : wr.cell? ⟨ba, oa + i, none⟩ = some (.slice pu (r.after.getD i []).length cu) := by have := hca i hlt 0 (by omega); rw [← hpu]; simpa using this
        have il : (i : Int) < (r.after.length : Int) := by omega
        have i0 : (0 : Int) ≤ (i : Int) := by omega
        clear hca hu hui hpu
        cases b with
        | false =>
          go_wp2_with fail
          go_roundg (r.after.length - (i + 1))
          case measure => omega
          case rel =>
            refine ⟨i + 1, false, by omega, rfl, rfl, by go_num, ?_, hbl.out⟩
            show _ ↔ _
            refine ⟨fun h => absurd h (by simp), fun h => hb.out.2 ⟨h.1, fun j hj => h.2 j (by omega)⟩⟩
        | true =>
          by_cases hle : (r.after.getD i []).length ≤ 12
          · have e1 : decide (((r.after.getD i []).length : Int) ≤ 12) = true := decide_eq_true (by omega)
            have e1z : ((r.after.getD i []).length : Int) ≤ 12 := by omega
            have HLE := Lib.hid hle
            obtain ⟨nn, hnn⟩ : ∃ nn, (r.after.getD i []).length = nn := ⟨_, rfl⟩
            rw [hnn] at a0 e1 e1z
            clear hle hnn
            go_wp2_with fail
            go_roundg (r.after.length - (i + 1))
            case measure => omega
            case rel =>
              refine ⟨i + 1, true, by omega, rfl, rfl, by go_num, ?_, hbl.out⟩
              show _ ↔ _
              refine ⟨fun _ => ⟨(hb.out.1 (by simp)).1, fun j hj => ?_⟩, fun _ => rfl⟩
              rcases Nat.lt_or_ge j i with h | h
              · exact (hb.out.1 (by simp)).2 j h
              · obtain rfl : j = i := by omega
                exact HLE.out
          · have e1 : decide (((r.after.getD i []).length : Int) ≤ 12) = false := decide_eq_false (by omega)
            have e1z : ¬ ((r.after.getD i []).length : Int) ≤ 12 := by omega
            have HLE := Lib.hid hle
            obtain ⟨nn, hnn⟩ : ∃ nn, (r.after.getD i []).length = nn := ⟨_, rfl⟩
            rw [hnn] at a0 e1 e1z
            clear hle hnn
            go_wp2_with fail
            go_roundg (r.after.length - (i + 1))
            case measure => omega
            case rel =>
              refine ⟨i + 1, false, by omega, rfl, rfl, by go_num, ?_, hbl.out⟩
              show _ ↔ _
              exact ⟨fun h => absurd h (by simp), fun h => absurd (h.2 i (by omega)) HLE.out⟩
      · obtain rfl : i = r.after.length := by omega
        have HBB : Hid (b = true ↔ Bare r) := by
          show _ ↔ _
          rw [hb.out, HBR.out]
          refine and_congr_right fun _ => ⟨fun h a ha => ?_, fun h j hj => ?_⟩
          · obtain ⟨j, hj, rfl⟩ := List.mem_iff_getElem.1 ha
            have := h j hj
            rw [List.getD_eq_getElem?_getD, List.getElem?_eq_getElem hj] at this
            exact this
          · rw [List.getD_eq_getElem?_getD, List.getElem?_eq_getElem hj]
            exact h _ (List.getElem_mem hj)
        clear hb hlt
        cases b with
        | false =>
          have HP : Hid ((1 ≤ r.kind ∧ r.kind ≤ 5) → false = decide (Bare r)) := fun _ => (decide_eq_false (fun e => by have := HBB.out.2 e; cases this)).symm
          go_wp2_with fail
          go_ret2
          exact ⟨_, _, rfl, HP.out, fun h => absurd (HBB.out.2 h) (by simp), HB.out.trans (hbl.out.mono HB.out.size)⟩
        | true =>
          have HP : Hid ((1 ≤ r.kind ∧ r.kind ≤ 5) → true = decide (Bare r)) := fun _ => (decide_eq_true (HBB.out.1 rfl)).symm
          have HBA := Lib.hid ((bare_1 HK.out).1 (HBB.out.1 rfl))
          go_wp2_with fail
          refine (rPlanned_c wr _ _ r.steps r.after (H1.out.after hbl.out) (H2.out.after hbl.out) HBA.out.2.1 (by rw [HBA.out.2.2.1]; exact HBA.out.2.1) HBA.out.2.2.2).mono ?_
          rintro e w11 ⟨v, rfl, hv, hb11⟩
          have HV := Lib.hid hv.sl
          have HB11 : Hid (Below w.heap.size w w11) := HB.out.trans ((hbl.out.trans (hb11.mono hbl.out.size)).mono HB.out.size)
          clear hv hb11
          go_wp2_with fail
          go_ret2
          exact ⟨_, _, rfl, HP.out, fun _ => by rw [HN.out]; exact HV.out, HB11.out⟩
  by_cases cz : r.steps.length ≤ 12
  rotate_left
  · have HBR : Hid (Bare r ↔ false = true ∧ ∀ a ∈ r.after, a.length ≤ 12) := (show _ ↔ _ from ⟨fun e => absurd ((bare_1 hk).1 e).2.1 cz, fun e => absurd e.1 (by simp)⟩)
    have q5 : decide ((r.steps.length : Int) ≤ 12) = false := decide_eq_false (by omega)
    have q5z : ¬ (r.steps.length : Int) ≤ 12 := by omega
    have q1 : (r.place == 0) = true := by rw [beq_iff_eq]; omega
    have q2 : (r.id == 0) = true := by rw [beq_iff_eq]; omega
    have q3 : (r.lease == 0) = true := by rw [beq_iff_eq]; omega
    have q4 : ((r.ans : Int) == 0) = true := by rw [beq_iff_eq]; omega
    clear hk cp ci cl ca cz
    go_enter Tryz.func30, Tryz.ntmps30
    go_upto_region 1 with fail
    rw [← hW]
    clear hW
    go_wp2_with fail
    go_loopg [5, 6] r.after.length (fun g o t wx => ∃ (i : Nat) (b : Bool), i ≤ r.after.length ∧ g = r.after.length - i ∧ o = .bool b ∧ t = .int .i64 (i : Int) ∧ Hid (b = true ↔ false = true ∧ ∀ j, j < i → (r.after.getD j []).length ≤ 12) ∧ Hid (Below W0.heap.size W0 wx))
    case atStart => exact ⟨0, _, Nat.zero_le _, rfl, rfl, rfl, (show _ ↔ _ from ⟨fun h => ⟨h, fun j hj => absurd hj (by omega)⟩, fun h => h.1⟩), Below.refl _ _⟩
    case round =>
      clear x0 x1 x2 x3 x4 x5 x6 lx
      obtain ⟨i, b, hi, rfl, rfl, rfl, hb, hbl⟩ := hrel
      have x5 : wr.cell? ⟨w.heap.size, 5, none⟩ = some (.slice pS r.steps.length cS) := (BX.out.after hbl.out).cell 5
      have x6 : wr.cell? ⟨w.heap.size, 6, none⟩ = some (.slice pL r.after.length cL) := (BX.out.after hbl.out).cell 6
      have lx := (BX.out.after hbl.out).lt
      by_cases hlt : i < r.after.length
      · obtain ⟨u, hu, hui⟩ := H2.out
        obtain ⟨ba, oa, ca, ea, _, _, la, hca⟩ := (hu.after hbl.out).at_ (by omega)
        injection ea with ea _ ec
        subst ea ec
        obtain ⟨pu, cu, hpu, _, _, _⟩ := (hui i hlt).2.shape
        have a0 : wr.cell? ⟨ba, oa + i, none⟩ = some (.slice pu (r.after.getD i []).length cu) := by have := hca i hlt 0 (by omega); rw [← hpu]; simpa using this
        have il : (i : Int) < (r.after.length : Int) := by omega
        have i0 : (0 : Int) ≤ (i : Int) := by omega
        clear hca hu hui hpu
        cases b with
        | false =>
          go_wp2_with fail
          go_roundg (r.after.length - (i + 1))
          case measure => omega
          case rel =>
            refine ⟨i + 1, false, by omega, rfl, rfl, by go_num, ?_, hbl.out⟩
            show _ ↔ _
            refine ⟨fun h => absurd h (by simp), fun h => hb.out.2 ⟨h.1, fun j hj => h.2 j (by omega)⟩⟩
        | true =>
          by_cases hle : (r.after.getD i []).length ≤ 12
          · have e1 : decide (((r.after.getD i []).length : Int) ≤ 12) = true := decide_eq_true (by omega)
            have e1z : ((r.after.getD i []).length : Int) ≤ 12 := by omega
            have HLE := Lib.hid hle
            obtain ⟨nn, hnn⟩ : ∃ nn, (r.after.getD i []).length = nn := ⟨_, rfl⟩
            rw [hnn] at a0 e1 e1z
            clear hle hnn
            go_wp2_with fail
            go_roundg (r.after.length - (i + 1))
            case measure => omega
            case rel =>
              refine ⟨i + 1, true, by omega, rfl, rfl, by go_num, ?_, hbl.out⟩
              show _ ↔ _
              refine ⟨fun _ => ⟨(hb.out.1 (by simp)).1, fun j hj => ?_⟩, fun _ => rfl⟩
              rcases Nat.lt_or_ge j i with h | h
              · exact (hb.out.1 (by simp)).2 j h
              · obtain rfl : j = i := by omega
                exact HLE.out
          · have e1 : decide (((r.after.getD i []).length : Int) ≤ 12) = false := decide_eq_false (by omega)
            have e1z : ¬ ((r.after.getD i []).length : Int) ≤ 12 := by omega
            have HLE := Lib.hid hle
            obtain ⟨nn, hnn⟩ : ∃ nn, (r.after.getD i []).length = nn := ⟨_, rfl⟩
            rw [hnn] at a0 e1 e1z
            clear hle hnn
            go_wp2_with fail
            go_roundg (r.after.length - (i + 1))
            case measure => omega
            case rel =>
              refine ⟨i + 1, false, by omega, rfl, rfl, by go_num, ?_, hbl.out⟩
              show _ ↔ _
              exact ⟨fun h => absurd h (by simp), fun h => absurd (h.2 i (by omega)) HLE.out⟩
      · obtain rfl : i = r.after.length := by omega
        have HBB : Hid (b = true ↔ Bare r) := by
          show _ ↔ _
          rw [hb.out, HBR.out]
          refine and_congr_right fun _ => ⟨fun h a ha => ?_, fun h j hj => ?_⟩
          · obtain ⟨j, hj, rfl⟩ := List.mem_iff_getElem.1 ha
            have := h j hj
            rw [List.getD_eq_getElem?_getD, List.getElem?_eq_getElem hj] at this
            exact this
          · rw [List.getD_eq_getElem?_getD, List.getElem?_eq_getElem hj]
            exact h _ (List.getElem_mem hj)
        clear hb hlt
        cases b with
        | false =>
          have HP : Hid ((1 ≤ r.kind ∧ r.kind ≤ 5) → false = decide (Bare r)) := fun _ => (decide_eq_false (fun e => by have := HBB.out.2 e; cases this)).symm
          go_wp2_with fail
          go_ret2
          exact ⟨_, _, rfl, HP.out, fun h => absurd (HBB.out.2 h) (by simp), HB.out.trans (hbl.out.mono HB.out.size)⟩
        | true =>
          have HP : Hid ((1 ≤ r.kind ∧ r.kind ≤ 5) → true = decide (Bare r)) := fun _ => (decide_eq_true (HBB.out.1 rfl)).symm
          have HBA := Lib.hid ((bare_1 HK.out).1 (HBB.out.1 rfl))
          go_wp2_with fail
          refine (rPlanned_c wr _ _ r.steps r.after (H1.out.after hbl.out) (H2.out.after hbl.out) HBA.out.2.1 (by rw [HBA.out.2.2.1]; exact HBA.out.2.1) HBA.out.2.2.2).mono ?_
          rintro e w11 ⟨v, rfl, hv, hb11⟩
          have HV := Lib.hid hv.sl
          have HB11 : Hid (Below w.heap.size w w11) := HB.out.trans ((hbl.out.trans (hb11.mono hbl.out.size)).mono HB.out.size)
          clear hv hb11
          go_wp2_with fail
          go_ret2
          exact ⟨_, _, rfl, HP.out, fun _ => by rw [HN.out]; exact HV.out, HB11.out⟩
  obtain ⟨zq, hzq⟩ : ∃ z, ((r.after.length : Int) == (r.steps.length : Int)) = z := ⟨_, rfl⟩
  have HBR : Hid (Bare r ↔ zq = true ∧ ∀ a ∈ r.after, a.length ≤ 12) := (show _ ↔ _ from by rw [← hzq, beq_iff_eq, bare_1 hk]; simp [cp, ci, cl, ca, cz]; intro _; omega)
  have q1 : (r.place == 0) = true := by rw [beq_iff_eq]; omega
  have q2 : (r.id == 0) = true := by rw [beq_iff_eq]; omega
  have q3 : (r.lease == 0) = true := by rw [beq_iff_eq]; omega
  have q4 : ((r.ans : Int) == 0) = true := by rw [beq_iff_eq]; omega
  have q5 : decide ((r.steps.length : Int) ≤ 12) = true := decide_eq_true (by omega)
  have q5z : (r.steps.length : Int) ≤ 12 := by omega
  clear hk cp ci cl ca cz
  go_enter Tryz.func30, Tryz.ntmps30
  go_upto_region 1 with fail
  rw [← hW]
  clear hW
  go_wp2_with fail
  go_loopg [5, 6] r.after.length (fun g o t wx => ∃ (i : Nat) (b : Bool), i ≤ r.after.length ∧ g = r.after.length - i ∧ o = .bool b ∧ t = .int .i64 (i : Int) ∧ Hid (b = true ↔ zq = true ∧ ∀ j, j < i → (r.after.getD j []).length ≤ 12) ∧ Hid (Below W0.heap.size W0 wx))
  case atStart => exact ⟨0, _, Nat.zero_le _, rfl, rfl, rfl, (show _ ↔ _ from ⟨fun h => ⟨h, fun j hj => absurd hj (by omega)⟩, fun h => h.1⟩), Below.refl _ _⟩
  case round =>
    clear x0 x1 x2 x3 x4 x5 x6 lx
    obtain ⟨i, b, hi, rfl, rfl, rfl, hb, hbl⟩ := hrel
    have x5 : wr.cell? ⟨w.heap.size, 5, none⟩ = some (.slice pS r.steps.length cS) := (BX.out.after hbl.out).cell 5
    have x6 : wr.cell? ⟨w.heap.size, 6, none⟩ = some (.slice pL r.after.length cL) := (BX.out.after hbl.out).cell 6
    have lx := (BX.out.after hbl.out).lt
    by_cases hlt : i < r.after.length
    · obtain ⟨u, hu, hui⟩ := H2.out
      obtain ⟨ba, oa, ca, ea, _, _, la, hca⟩ := (hu.after hbl.out).at_ (by omega)
      injection ea with ea _ ec
      subst ea ec
      obtain ⟨pu, cu, hpu, _, _, _⟩ := (hui i hlt).2.shape
      have a0 : wr.cell? ⟨ba, oa + i, none⟩ = some (.slice pu (r.after.getD i []).length cu) := by have := hca i hlt 0 (by omega); rw [← hpu]; simpa using this
      have il : (i : Int) < (r.after.length : Int) := by omega
      have i0 : (0 : Int) ≤ (i : Int) := by omega
      clear hca hu hui hpu
      cases b with
      | false =>
        go_wp2_with fail
        go_roundg (r.after.length - (i + 1))
        case measure => omega
        case rel =>
          refine ⟨i + 1, false, by omega, rfl, rfl, by go_num, ?_, hbl.out⟩
          show _ ↔ _
          refine ⟨fun h => absurd h (by simp), fun h => hb.out.2 ⟨h.1, fun j hj => h.2 j (by omega)⟩⟩
      | true =>
        by_cases hle : (r.after.getD i []).length ≤ 12
        · have e1 : decide (((r.after.getD i []).length : Int) ≤ 12) = true := decide_eq_true (by omega)
          have e1z : ((r.after.getD i []).length : Int) ≤ 12 := by omega
          have HLE := Lib.hid hle
          obtain ⟨nn, hnn⟩ : ∃ nn, (r.after.getD i []).length = nn := ⟨_, rfl⟩
          rw [hnn] at a0 e1 e1z
          clear hle hnn
          go_wp2_with fail
          go_roundg (r.after.length - (i + 1))
          case measure => omega
          case rel =>
            refine ⟨i + 1, true, by omega, rfl, rfl, by go_num, ?_, hbl.out⟩
            show _ ↔ _
            refine ⟨fun _ => ⟨(hb.out.1 (by simp)).1, fun j hj => ?_⟩, fun _ => rfl⟩
            rcases Nat.lt_or_ge j i with h | h
            · exact (hb.out.1 (by simp)).2 j h
            · obtain rfl : j = i := by omega
              exact HLE.out
        · have e1 : decide (((r.after.getD i []).length : Int) ≤ 12) = false := decide_eq_false (by omega)
          have e1z : ¬ ((r.after.getD i []).length : Int) ≤ 12 := by omega
          have HLE := Lib.hid hle
          obtain ⟨nn, hnn⟩ : ∃ nn, (r.after.getD i []).length = nn := ⟨_, rfl⟩
          rw [hnn] at a0 e1 e1z
          clear hle hnn
          go_wp2_with fail
          go_roundg (r.after.length - (i + 1))
          case measure => omega
          case rel =>
            refine ⟨i + 1, false, by omega, rfl, rfl, by go_num, ?_, hbl.out⟩
            show _ ↔ _
            exact ⟨fun h => absurd h (by simp), fun h => absurd (h.2 i (by omega)) HLE.out⟩
    · obtain rfl : i = r.after.length := by omega
      have HBB : Hid (b = true ↔ Bare r) := by
        show _ ↔ _
        rw [hb.out, HBR.out]
        refine and_congr_right fun _ => ⟨fun h a ha => ?_, fun h j hj => ?_⟩
        · obtain ⟨j, hj, rfl⟩ := List.mem_iff_getElem.1 ha
          have := h j hj
          rw [List.getD_eq_getElem?_getD, List.getElem?_eq_getElem hj] at this
          exact this
        · rw [List.getD_eq_getElem?_getD, List.getElem?_eq_getElem hj]
          exact h _ (List.getElem_mem hj)
      clear hb hlt
      cases b with
      | false =>
        have HP : Hid ((1 ≤ r.kind ∧ r.kind ≤ 5) → false = decide (Bare r)) := fun _ => (decide_eq_false (fun e => by have := HBB.out.2 e; cases this)).symm
        go_wp2_with fail
        go_ret2
        exact ⟨_, _, rfl, HP.out, fun h => absurd (HBB.out.2 h) (by simp), HB.out.trans (hbl.out.mono HB.out.size)⟩
      | true =>
        have HP : Hid ((1 ≤ r.kind ∧ r.kind ≤ 5) → true = decide (Bare r)) := fun _ => (decide_eq_true (HBB.out.1 rfl)).symm
        have HBA := Lib.hid ((bare_1 HK.out).1 (HBB.out.1 rfl))
        go_wp2_with fail
        refine (rPlanned_c wr _ _ r.steps r.after (H1.out.after hbl.out) (H2.out.after hbl.out) HBA.out.2.1 (by rw [HBA.out.2.2.1]; exact HBA.out.2.1) HBA.out.2.2.2).mono ?_
        rintro e w11 ⟨v, rfl, hv, hb11⟩
        have HV := Lib.hid hv.sl
        have HB11 : Hid (Below w.heap.size w w11) := HB.out.trans ((hbl.out.trans (hb11.mono hbl.out.size)).mono HB.out.size)
        clear hv hb11
        go_wp2_with fail
        go_ret2
        exact ⟨_, _, rfl, HP.out, fun _ => by rw [HN.out]; exact HV.out, HB11.out⟩
set_option maxRecDepth 100000 in
set_option maxHeartbeats 2000000 in
theorem rNumbers_1b (w : World) (v : Value) (r : Rec) (h : IsR w v r) (hk : r.kind = 1) (hs : r.steps = []) (ha : r.after ≠ []) : Calls Tryz.prog 30 #[v] w (RetN w r) := by
  obtain ⟨hok, vs, va, rfl, h1, h2⟩ := h
  obtain ⟨pS, cS, rfl, _, _, _⟩ := h1.2.shape
  obtain ⟨pL, cL, rfl⟩ : ∃ pL cL, va = .slice pL r.after.length cL := by
    obtain ⟨_, k2, _⟩ := h2
    obtain ⟨a, b, e', _⟩ := k2.shape
    exact ⟨a, b, e'⟩
  obtain ⟨W0, hW⟩ : ∃ W0, W0 = w.alloc (.cells #[.int .u8 (r.kind : Int), .int .i64 r.place, .int .i64 r.id, .int .i64 r.lease, .int .u8 (r.ans : Int), .slice pS r.steps.length cS, .slice pL r.after.length cL] 29) := ⟨_, rfl⟩
  have hb0 : Below w.heap.size w W0 := by rw [hW]; exact held_alloc (Below.refl _ _)
  have hbx : Box W0 w.heap.size #[.int .u8 (r.kind : Int), .int .i64 r.place, .int .i64 r.id, .int .i64 r.lease, .int .u8 (r.ans : Int), .slice pS r.steps.length cS, .slice pL r.after.length cL] 29 := by rw [hW]; exact Box.new _ _ _
  have HOK := Lib.hid hok
  have H1 := Lib.hid (h1.after hb0)
  have H2 := Lib.hid (h2.after hb0)
  have HB := Lib.hid hb0
  have BX := Lib.hid hbx
  have x0 : W0.cell? ⟨w.heap.size, 0, none⟩ = some (.int .u8 (r.kind : Int)) := hbx.cell 0
  have x1 : W0.cell? ⟨w.heap.size, 1, none⟩ = some (.int .i64 r.place) := hbx.cell 1
  have x2 : W0.cell? ⟨w.heap.size, 2, none⟩ = some (.int .i64 r.id) := hbx.cell 2
  have x3 : W0.cell? ⟨w.heap.size, 3, none⟩ = some (.int .i64 r.lease) := hbx.cell 3
  have x4 : W0.cell? ⟨w.heap.size, 4, none⟩ = some (.int .u8 (r.ans : Int)) := hbx.cell 4
  have x5 : W0.cell? ⟨w.heap.size, 5, none⟩ = some (.slice pS r.steps.length cS) := hbx.cell 5
  have x6 : W0.cell? ⟨w.heap.size, 6, none⟩ = some (.slice pL r.after.length cL) := hbx.cell 6
  have lx := hbx.lt
  clear hok h1 h2 hb0 hbx
  show Calls _ _ #[.agg #[.int .u8 (r.kind : Int), .int .i64 r.place, .int .i64 r.id, .int .i64 r.lease, .int .u8 (r.ans : Int), .slice pS r.steps.length cS, .slice pL r.after.length cL]] w _
  have k1 : ((r.kind : Int) == 1) = true := by rw [beq_iff_eq]; omega
  have ha0 : 0 < r.after.length := List.length_pos_iff.2 ha
  have b1 : ((r.steps.length : Int) == 0) = true := by rw [hs]; rfl
  have b2 : ((r.after.length : Int) == 0) = false := by rw [beq_eq_false_iff_ne]; omega
  clear hs ha ha0
  have HN := Lib.hid (nums_1 hk)
  have HK := Lib.hid hk
  by_cases cp : r.place = 0
  rotate_left
  · have HBR : Hid (Bare r ↔ false = true ∧ ∀ a ∈ r.after, a.length ≤ 12) := (show _ ↔ _ from ⟨fun e => absurd ((bare_1 hk).1 e).1.1 cp, fun e => absurd e.1 (by simp)⟩)
    have q1 : (r.place == 0) = false := by rw [beq_eq_false_iff_ne]; omega
    clear hk cp
    go_enter Tryz.func30, Tryz.ntmps30
    go_upto_region 1 with fail
    rw [← hW]
    clear hW
    go_wp2_with fail
    go_loopg [5, 6] r.after.length (fun g o t wx => ∃ (i : Nat) (b : Bool), i ≤ r.after.length ∧ g = r.after.length - i ∧ o = .bool b ∧ t = .int .i64 (i : Int) ∧ Hid (b = true ↔ false = true ∧ ∀ j, j < i → (r.after.getD j []).length ≤ 12) ∧ Hid (Below W0.heap.size W0 wx))
    case atStart => exact ⟨0, _, Nat.zero_le _, rfl, rfl, rfl, (show _ ↔ _ from ⟨fun h => ⟨h, fun j hj => absurd hj (by omega)⟩, fun h => h.1⟩), Below.refl _ _⟩
    case round =>
      clear x0 x1 x2 x3 x4 x5 x6 lx
      obtain ⟨i, b, hi, rfl, rfl, rfl, hb, hbl⟩ := hrel
      have x5 : wr.cell? ⟨w.heap.size, 5, none⟩ = some (.slice pS r.steps.length cS) := (BX.out.after hbl.out).cell 5
      have x6 : wr.cell? ⟨w.heap.size, 6, none⟩ = some (.slice pL r.after.length cL) := (BX.out.after hbl.out).cell 6
      have lx := (BX.out.after hbl.out).lt
      by_cases hlt : i < r.after.length
      · obtain ⟨u, hu, hui⟩ := H2.out
        obtain ⟨ba, oa, ca, ea, _, _, la, hca⟩ := (hu.after hbl.out).at_ (by omega)
        injection ea with ea _ ec
        subst ea ec
        obtain ⟨pu, cu, hpu, _, _, _⟩ := (hui i hlt).2.shape
        have a0 : wr.cell? ⟨ba, oa + i, none⟩ = some (.slice pu (r.after.getD i []).length cu) := by have := hca i hlt 0 (by omega); rw [← hpu]; simpa using this
        have il : (i : Int) < (r.after.length : Int) := by omega
        have i0 : (0 : Int) ≤ (i : Int) := by omega
        clear hca hu hui hpu
        cases b with
        | false =>
          go_wp2_with fail
          go_roundg (r.after.length - (i + 1))
          case measure => omega
          case rel =>
            refine ⟨i + 1, false, by omega, rfl, rfl, by go_num, ?_, hbl.out⟩
            show _ ↔ _
            refine ⟨fun h => absurd h (by simp), fun h => hb.out.2 ⟨h.1, fun j hj => h.2 j (by omega)⟩⟩
        | true =>
          by_cases hle : (r.after.getD i []).length ≤ 12
          · have e1 : decide (((r.after.getD i []).length : Int) ≤ 12) = true := decide_eq_true (by omega)
            have e1z : ((r.after.getD i []).length : Int) ≤ 12 := by omega
            have HLE := Lib.hid hle
            obtain ⟨nn, hnn⟩ : ∃ nn, (r.after.getD i []).length = nn := ⟨_, rfl⟩
            rw [hnn] at a0 e1 e1z
            clear hle hnn
            go_wp2_with fail
            go_roundg (r.after.length - (i + 1))
            case measure => omega
            case rel =>
              refine ⟨i + 1, true, by omega, rfl, rfl, by go_num, ?_, hbl.out⟩
              show _ ↔ _
              refine ⟨fun _ => ⟨(hb.out.1 (by simp)).1, fun j hj => ?_⟩, fun _ => rfl⟩
              rcases Nat.lt_or_ge j i with h | h
              · exact (hb.out.1 (by simp)).2 j h
              · obtain rfl : j = i := by omega
                exact HLE.out
          · have e1 : decide (((r.after.getD i []).length : Int) ≤ 12) = false := decide_eq_false (by omega)
            have e1z : ¬ ((r.after.getD i []).length : Int) ≤ 12 := by omega
            have HLE := Lib.hid hle
            obtain ⟨nn, hnn⟩ : ∃ nn, (r.after.getD i []).length = nn := ⟨_, rfl⟩
            rw [hnn] at a0 e1 e1z
            clear hle hnn
            go_wp2_with fail
            go_roundg (r.after.length - (i + 1))
            case measure => omega
            case rel =>
              refine ⟨i + 1, false, by omega, rfl, rfl, by go_num, ?_, hbl.out⟩
              show _ ↔ _
              exact ⟨fun h => absurd h (by simp), fun h => absurd (h.2 i (by omega)) HLE.out⟩
      · obtain rfl : i = r.after.length := by omega
        have HBB : Hid (b = true ↔ Bare r) := by
          show _ ↔ _
          rw [hb.out, HBR.out]
          refine and_congr_right fun _ => ⟨fun h a ha => ?_, fun h j hj => ?_⟩
          · obtain ⟨j, hj, rfl⟩ := List.mem_iff_getElem.1 ha
            have := h j hj
            rw [List.getD_eq_getElem?_getD, List.getElem?_eq_getElem hj] at this
            exact this
          · rw [List.getD_eq_getElem?_getD, List.getElem?_eq_getElem hj]
            exact h _ (List.getElem_mem hj)
        clear hb hlt
        cases b with
        | false =>
          have HP : Hid ((1 ≤ r.kind ∧ r.kind ≤ 5) → false = decide (Bare r)) := fun _ => (decide_eq_false (fun e => by have := HBB.out.2 e; cases this)).symm
          go_wp2_with fail
          go_ret2
          exact ⟨_, _, rfl, HP.out, fun h => absurd (HBB.out.2 h) (by simp), HB.out.trans (hbl.out.mono HB.out.size)⟩
        | true =>
          have HP : Hid ((1 ≤ r.kind ∧ r.kind ≤ 5) → true = decide (Bare r)) := fun _ => (decide_eq_true (HBB.out.1 rfl)).symm
          have HBA := Lib.hid ((bare_1 HK.out).1 (HBB.out.1 rfl))
          go_wp2_with fail
          refine (rPlanned_c wr _ _ r.steps r.after (H1.out.after hbl.out) (H2.out.after hbl.out) HBA.out.2.1 (by rw [HBA.out.2.2.1]; exact HBA.out.2.1) HBA.out.2.2.2).mono ?_
          rintro e w11 ⟨v, rfl, hv, hb11⟩
          have HV := Lib.hid hv.sl
          have HB11 : Hid (Below w.heap.size w w11) := HB.out.trans ((hbl.out.trans (hb11.mono hbl.out.size)).mono HB.out.size)
          clear hv hb11
          go_wp2_with fail
          go_ret2
          exact ⟨_, _, rfl, HP.out, fun _ => by rw [HN.out]; exact HV.out, HB11.out⟩
  by_cases ci : r.id = 0
  rotate_left
  · have HBR : Hid (Bare r ↔ false = true ∧ ∀ a ∈ r.after, a.length ≤ 12) := (show _ ↔ _ from ⟨fun e => absurd ((bare_1 hk).1 e).1.2.1 ci, fun e => absurd e.1 (by simp)⟩)
    have q2 : (r.id == 0) = false := by rw [beq_eq_false_iff_ne]; omega
    have q1 : (r.place == 0) = true := by rw [beq_iff_eq]; omega
    clear hk cp ci
    go_enter Tryz.func30, Tryz.ntmps30
    go_upto_region 1 with fail
    rw [← hW]
    clear hW
    go_wp2_with fail
    go_loopg [5, 6] r.after.length (fun g o t wx => ∃ (i : Nat) (b : Bool), i ≤ r.after.length ∧ g = r.after.length - i ∧ o = .bool b ∧ t = .int .i64 (i : Int) ∧ Hid (b = true ↔ false = true ∧ ∀ j, j < i → (r.after.getD j []).length ≤ 12) ∧ Hid (Below W0.heap.size W0 wx))
    case atStart => exact ⟨0, _, Nat.zero_le _, rfl, rfl, rfl, (show _ ↔ _ from ⟨fun h => ⟨h, fun j hj => absurd hj (by omega)⟩, fun h => h.1⟩), Below.refl _ _⟩
    case round =>
      clear x0 x1 x2 x3 x4 x5 x6 lx
      obtain ⟨i, b, hi, rfl, rfl, rfl, hb, hbl⟩ := hrel
      have x5 : wr.cell? ⟨w.heap.size, 5, none⟩ = some (.slice pS r.steps.length cS) := (BX.out.after hbl.out).cell 5
      have x6 : wr.cell? ⟨w.heap.size, 6, none⟩ = some (.slice pL r.after.length cL) := (BX.out.after hbl.out).cell 6
      have lx := (BX.out.after hbl.out).lt
      by_cases hlt : i < r.after.length
      · obtain ⟨u, hu, hui⟩ := H2.out
        obtain ⟨ba, oa, ca, ea, _, _, la, hca⟩ := (hu.after hbl.out).at_ (by omega)
        injection ea with ea _ ec
        subst ea ec
        obtain ⟨pu, cu, hpu, _, _, _⟩ := (hui i hlt).2.shape
        have a0 : wr.cell? ⟨ba, oa + i, none⟩ = some (.slice pu (r.after.getD i []).length cu) := by have := hca i hlt 0 (by omega); rw [← hpu]; simpa using this
        have il : (i : Int) < (r.after.length : Int) := by omega
        have i0 : (0 : Int) ≤ (i : Int) := by omega
        clear hca hu hui hpu
        cases b with
        | false =>
          go_wp2_with fail
          go_roundg (r.after.length - (i + 1))
          case measure => omega
          case rel =>
            refine ⟨i + 1, false, by omega, rfl, rfl, by go_num, ?_, hbl.out⟩
            show _ ↔ _
            refine ⟨fun h => absurd h (by simp), fun h => hb.out.2 ⟨h.1, fun j hj => h.2 j (by omega)⟩⟩
        | true =>
          by_cases hle : (r.after.getD i []).length ≤ 12
          · have e1 : decide (((r.after.getD i []).length : Int) ≤ 12) = true := decide_eq_true (by omega)
            have e1z : ((r.after.getD i []).length : Int) ≤ 12 := by omega
            have HLE := Lib.hid hle
            obtain ⟨nn, hnn⟩ : ∃ nn, (r.after.getD i []).length = nn := ⟨_, rfl⟩
            rw [hnn] at a0 e1 e1z
            clear hle hnn
            go_wp2_with fail
            go_roundg (r.after.length - (i + 1))
            case measure => omega
            case rel =>
              refine ⟨i + 1, true, by omega, rfl, rfl, by go_num, ?_, hbl.out⟩
              show _ ↔ _
              refine ⟨fun _ => ⟨(hb.out.1 (by simp)).1, fun j hj => ?_⟩, fun _ => rfl⟩
              rcases Nat.lt_or_ge j i with h | h
              · exact (hb.out.1 (by simp)).2 j h
              · obtain rfl : j = i := by omega
                exact HLE.out
          · have e1 : decide (((r.after.getD i []).length : Int) ≤ 12) = false := decide_eq_false (by omega)
            have e1z : ¬ ((r.after.getD i []).length : Int) ≤ 12 := by omega
            have HLE := Lib.hid hle
            obtain ⟨nn, hnn⟩ : ∃ nn, (r.after.getD i []).length = nn := ⟨_, rfl⟩
            rw [hnn] at a0 e1 e1z
            clear hle hnn
            go_wp2_with fail
            go_roundg (r.after.length - (i + 1))
            case measure => omega
            case rel =>
              refine ⟨i + 1, false, by omega, rfl, rfl, by go_num, ?_, hbl.out⟩
              show _ ↔ _
              exact ⟨fun h => absurd h (by simp), fun h => absurd (h.2 i (by omega)) HLE.out⟩
      · obtain rfl : i = r.after.length := by omega
        have HBB : Hid (b = true ↔ Bare r) := by
          show _ ↔ _
          rw [hb.out, HBR.out]
          refine and_congr_right fun _ => ⟨fun h a ha => ?_, fun h j hj => ?_⟩
          · obtain ⟨j, hj, rfl⟩ := List.mem_iff_getElem.1 ha
            have := h j hj
            rw [List.getD_eq_getElem?_getD, List.getElem?_eq_getElem hj] at this
            exact this
          · rw [List.getD_eq_getElem?_getD, List.getElem?_eq_getElem hj]
            exact h _ (List.getElem_mem hj)
        clear hb hlt
        cases b with
        | false =>
          have HP : Hid ((1 ≤ r.kind ∧ r.kind ≤ 5) → false = decide (Bare r)) := fun _ => (decide_eq_false (fun e => by have := HBB.out.2 e; cases this)).symm
          go_wp2_with fail
          go_ret2
          exact ⟨_, _, rfl, HP.out, fun h => absurd (HBB.out.2 h) (by simp), HB.out.trans (hbl.out.mono HB.out.size)⟩
        | true =>
          have HP : Hid ((1 ≤ r.kind ∧ r.kind ≤ 5) → true = decide (Bare r)) := fun _ => (decide_eq_true (HBB.out.1 rfl)).symm
          have HBA := Lib.hid ((bare_1 HK.out).1 (HBB.out.1 rfl))
          go_wp2_with fail
          refine (rPlanned_c wr _ _ r.steps r.after (H1.out.after hbl.out) (H2.out.after hbl.out) HBA.out.2.1 (by rw [HBA.out.2.2.1]; exact HBA.out.2.1) HBA.out.2.2.2).mono ?_
          rintro e w11 ⟨v, rfl, hv, hb11⟩
          have HV := Lib.hid hv.sl
          have HB11 : Hid (Below w.heap.size w w11) := HB.out.trans ((hbl.out.trans (hb11.mono hbl.out.size)).mono HB.out.size)
          clear hv hb11
          go_wp2_with fail
          go_ret2
          exact ⟨_, _, rfl, HP.out, fun _ => by rw [HN.out]; exact HV.out, HB11.out⟩
  by_cases cl : r.lease = 0
  rotate_left
  · have HBR : Hid (Bare r ↔ false = true ∧ ∀ a ∈ r.after, a.length ≤ 12) := (show _ ↔ _ from ⟨fun e => absurd ((bare_1 hk).1 e).1.2.2.1 cl, fun e => absurd e.1 (by simp)⟩)
    have q3 : (r.lease == 0) = false := by rw [beq_eq_false_iff_ne]; omega
    have q1 : (r.place == 0) = true := by rw [beq_iff_eq]; omega
    have q2 : (r.id == 0) = true := by rw [beq_iff_eq]; omega
    clear hk cp ci cl
    go_enter Tryz.func30, Tryz.ntmps30
    go_upto_region 1 with fail
    rw [← hW]
    clear hW
    go_wp2_with fail
    go_loopg [5, 6] r.after.length (fun g o t wx => ∃ (i : Nat) (b : Bool), i ≤ r.after.length ∧ g = r.after.length - i ∧ o = .bool b ∧ t = .int .i64 (i : Int) ∧ Hid (b = true ↔ false = true ∧ ∀ j, j < i → (r.after.getD j []).length ≤ 12) ∧ Hid (Below W0.heap.size W0 wx))
    case atStart => exact ⟨0, _, Nat.zero_le _, rfl, rfl, rfl, (show _ ↔ _ from ⟨fun h => ⟨h, fun j hj => absurd hj (by omega)⟩, fun h => h.1⟩), Below.refl _ _⟩
    case round =>
      clear x0 x1 x2 x3 x4 x5 x6 lx
      obtain ⟨i, b, hi, rfl, rfl, rfl, hb, hbl⟩ := hrel
      have x5 : wr.cell? ⟨w.heap.size, 5, none⟩ = some (.slice pS r.steps.length cS) := (BX.out.after hbl.out).cell 5
      have x6 : wr.cell? ⟨w.heap.size, 6, none⟩ = some (.slice pL r.after.length cL) := (BX.out.after hbl.out).cell 6
      have lx := (BX.out.after hbl.out).lt
      by_cases hlt : i < r.after.length
      · obtain ⟨u, hu, hui⟩ := H2.out
        obtain ⟨ba, oa, ca, ea, _, _, la, hca⟩ := (hu.after hbl.out).at_ (by omega)
        injection ea with ea _ ec
        subst ea ec
        obtain ⟨pu, cu, hpu, _, _, _⟩ := (hui i hlt).2.shape
        have a0 : wr.cell? ⟨ba, oa + i, none⟩ = some (.slice pu (r.after.getD i []).length cu) := by have := hca i hlt 0 (by omega); rw [← hpu]; simpa using this
        have il : (i : Int) < (r.after.length : Int) := by omega
        have i0 : (0 : Int) ≤ (i : Int) := by omega
        clear hca hu hui hpu
        cases b with
        | false =>
          go_wp2_with fail
          go_roundg (r.after.length - (i + 1))
          case measure => omega
          case rel =>
            refine ⟨i + 1, false, by omega, rfl, rfl, by go_num, ?_, hbl.out⟩
            show _ ↔ _
            refine ⟨fun h => absurd h (by simp), fun h => hb.out.2 ⟨h.1, fun j hj => h.2 j (by omega)⟩⟩
        | true =>
          by_cases hle : (r.after.getD i []).length ≤ 12
          · have e1 : decide (((r.after.getD i []).length : Int) ≤ 12) = true := decide_eq_true (by omega)
            have e1z : ((r.after.getD i []).length : Int) ≤ 12 := by omega
            have HLE := Lib.hid hle
            obtain ⟨nn, hnn⟩ : ∃ nn, (r.after.getD i []).length = nn := ⟨_, rfl⟩
            rw [hnn] at a0 e1 e1z
            clear hle hnn
            go_wp2_with fail
            go_roundg (r.after.length - (i + 1))
            case measure => omega
            case rel =>
              refine ⟨i + 1, true, by omega, rfl, rfl, by go_num, ?_, hbl.out⟩
              show _ ↔ _
              refine ⟨fun _ => ⟨(hb.out.1 (by simp)).1, fun j hj => ?_⟩, fun _ => rfl⟩
              rcases Nat.lt_or_ge j i with h | h
              · exact (hb.out.1 (by simp)).2 j h
              · obtain rfl : j = i := by omega
                exact HLE.out
          · have e1 : decide (((r.after.getD i []).length : Int) ≤ 12) = false := decide_eq_false (by omega)
            have e1z : ¬ ((r.after.getD i []).length : Int) ≤ 12 := by omega
            have HLE := Lib.hid hle
            obtain ⟨nn, hnn⟩ : ∃ nn, (r.after.getD i []).length = nn := ⟨_, rfl⟩
            rw [hnn] at a0 e1 e1z
            clear hle hnn
            go_wp2_with fail
            go_roundg (r.after.length - (i + 1))
            case measure => omega
            case rel =>
              refine ⟨i + 1, false, by omega, rfl, rfl, by go_num, ?_, hbl.out⟩
              show _ ↔ _
              exact ⟨fun h => absurd h (by simp), fun h => absurd (h.2 i (by omega)) HLE.out⟩
      · obtain rfl : i = r.after.length := by omega
        have HBB : Hid (b = true ↔ Bare r) := by
          show _ ↔ _
          rw [hb.out, HBR.out]
          refine and_congr_right fun _ => ⟨fun h a ha => ?_, fun h j hj => ?_⟩
          · obtain ⟨j, hj, rfl⟩ := List.mem_iff_getElem.1 ha
            have := h j hj
            rw [List.getD_eq_getElem?_getD, List.getElem?_eq_getElem hj] at this
            exact this
          · rw [List.getD_eq_getElem?_getD, List.getElem?_eq_getElem hj]
            exact h _ (List.getElem_mem hj)
        clear hb hlt
        cases b with
        | false =>
          have HP : Hid ((1 ≤ r.kind ∧ r.kind ≤ 5) → false = decide (Bare r)) := fun _ => (decide_eq_false (fun e => by have := HBB.out.2 e; cases this)).symm
          go_wp2_with fail
          go_ret2
          exact ⟨_, _, rfl, HP.out, fun h => absurd (HBB.out.2 h) (by simp), HB.out.trans (hbl.out.mono HB.out.size)⟩
        | true =>
          have HP : Hid ((1 ≤ r.kind ∧ r.kind ≤ 5) → true = decide (Bare r)) := fun _ => (decide_eq_true (HBB.out.1 rfl)).symm
          have HBA := Lib.hid ((bare_1 HK.out).1 (HBB.out.1 rfl))
          go_wp2_with fail
          refine (rPlanned_c wr _ _ r.steps r.after (H1.out.after hbl.out) (H2.out.after hbl.out) HBA.out.2.1 (by rw [HBA.out.2.2.1]; exact HBA.out.2.1) HBA.out.2.2.2).mono ?_
          rintro e w11 ⟨v, rfl, hv, hb11⟩
          have HV := Lib.hid hv.sl
          have HB11 : Hid (Below w.heap.size w w11) := HB.out.trans ((hbl.out.trans (hb11.mono hbl.out.size)).mono HB.out.size)
          clear hv hb11
          go_wp2_with fail
          go_ret2
          exact ⟨_, _, rfl, HP.out, fun _ => by rw [HN.out]; exact HV.out, HB11.out⟩
  by_cases ca : r.ans = 0
  rotate_left
  · have HBR : Hid (Bare r ↔ false = true ∧ ∀ a ∈ r.after, a.length ≤ 12) := (show _ ↔ _ from ⟨fun e => absurd ((bare_1 hk).1 e).1.2.2.2 ca, fun e => absurd e.1 (by simp)⟩)
    have q4 : ((r.ans : Int) == 0) = false := by rw [beq_eq_false_iff_ne]; omega
    have q1 : (r.place == 0) = true := by rw [beq_iff_eq]; omega
    have q2 : (r.id == 0) = true := by rw [beq_iff_eq]; omega
    have q3 : (r.lease == 0) = true := by rw [beq_iff_eq]; omega
    clear hk cp ci cl ca
    go_enter Tryz.func30, Tryz.ntmps30
    go_upto_region 1 with fail
    rw [← hW]
    clear hW
    go_wp2_with fail
    go_loopg [5, 6] r.after.length (fun g o t wx => ∃ (i : Nat) (b : Bool), i ≤ r.after.length ∧ g = r.after.length - i ∧ o = .bool b ∧ t = .int .i64 (i : Int) ∧ Hid (b = true ↔ false = true ∧ ∀ j, j < i → (r.after.getD j []).length ≤ 12) ∧ Hid (Below W0.heap.size W0 wx))
    case atStart => exact ⟨0, _, Nat.zero_le _, rfl, rfl, rfl, (show _ ↔ _ from ⟨fun h => ⟨h, fun j hj => absurd hj (by omega)⟩, fun h => h.1⟩), Below.refl _ _⟩
    case round =>
      clear x0 x1 x2 x3 x4 x5 x6 lx
      obtain ⟨i, b, hi, rfl, rfl, rfl, hb, hbl⟩ := hrel
      have x5 : wr.cell? ⟨w.heap.size, 5, none⟩ = some (.slice pS r.steps.length cS) := (BX.out.after hbl.out).cell 5
      have x6 : wr.cell? ⟨w.heap.size, 6, none⟩ = some (.slice pL r.after.length cL) := (BX.out.after hbl.out).cell 6
      have lx := (BX.out.after hbl.out).lt
      by_cases hlt : i < r.after.length
      · obtain ⟨u, hu, hui⟩ := H2.out
        obtain ⟨ba, oa, ca, ea, _, _, la, hca⟩ := (hu.after hbl.out).at_ (by omega)
        injection ea with ea _ ec
        subst ea ec
        obtain ⟨pu, cu, hpu, _, _, _⟩ := (hui i hlt).2.shape
        have a0 : wr.cell? ⟨ba, oa + i, none⟩ = some (.slice pu (r.after.getD i []).length cu) := by have := hca i hlt 0 (by omega); rw [← hpu]; simpa using this
        have il : (i : Int) < (r.after.length : Int) := by omega
        have i0 : (0 : Int) ≤ (i : Int) := by omega
        clear hca hu hui hpu
        cases b with
        | false =>
          go_wp2_with fail
          go_roundg (r.after.length - (i + 1))
          case measure => omega
          case rel =>
            refine ⟨i + 1, false, by omega, rfl, rfl, by go_num, ?_, hbl.out⟩
            show _ ↔ _
            refine ⟨fun h => absurd h (by simp), fun h => hb.out.2 ⟨h.1, fun j hj => h.2 j (by omega)⟩⟩
        | true =>
          by_cases hle : (r.after.getD i []).length ≤ 12
          · have e1 : decide (((r.after.getD i []).length : Int) ≤ 12) = true := decide_eq_true (by omega)
            have e1z : ((r.after.getD i []).length : Int) ≤ 12 := by omega
            have HLE := Lib.hid hle
            obtain ⟨nn, hnn⟩ : ∃ nn, (r.after.getD i []).length = nn := ⟨_, rfl⟩
            rw [hnn] at a0 e1 e1z
            clear hle hnn
            go_wp2_with fail
            go_roundg (r.after.length - (i + 1))
            case measure => omega
            case rel =>
              refine ⟨i + 1, true, by omega, rfl, rfl, by go_num, ?_, hbl.out⟩
              show _ ↔ _
              refine ⟨fun _ => ⟨(hb.out.1 (by simp)).1, fun j hj => ?_⟩, fun _ => rfl⟩
              rcases Nat.lt_or_ge j i with h | h
              · exact (hb.out.1 (by simp)).2 j h
              · obtain rfl : j = i := by omega
                exact HLE.out
          · have e1 : decide (((r.after.getD i []).length : Int) ≤ 12) = false := decide_eq_false (by omega)
            have e1z : ¬ ((r.after.getD i []).length : Int) ≤ 12 := by omega
            have HLE := Lib.hid hle
            obtain ⟨nn, hnn⟩ : ∃ nn, (r.after.getD i []).length = nn := ⟨_, rfl⟩
            rw [hnn] at a0 e1 e1z
            clear hle hnn
            go_wp2_with fail
            go_roundg (r.after.length - (i + 1))
            case measure => omega
            case rel =>
              refine ⟨i + 1, false, by omega, rfl, rfl, by go_num, ?_, hbl.out⟩
              show _ ↔ _
              exact ⟨fun h => absurd h (by simp), fun h => absurd (h.2 i (by omega)) HLE.out⟩
      · obtain rfl : i = r.after.length := by omega
        have HBB : Hid (b = true ↔ Bare r) := by
          show _ ↔ _
          rw [hb.out, HBR.out]
          refine and_congr_right fun _ => ⟨fun h a ha => ?_, fun h j hj => ?_⟩
          · obtain ⟨j, hj, rfl⟩ := List.mem_iff_getElem.1 ha
            have := h j hj
            rw [List.getD_eq_getElem?_getD, List.getElem?_eq_getElem hj] at this
            exact this
          · rw [List.getD_eq_getElem?_getD, List.getElem?_eq_getElem hj]
            exact h _ (List.getElem_mem hj)
        clear hb hlt
        cases b with
        | false =>
          have HP : Hid ((1 ≤ r.kind ∧ r.kind ≤ 5) → false = decide (Bare r)) := fun _ => (decide_eq_false (fun e => by have := HBB.out.2 e; cases this)).symm
          go_wp2_with fail
          go_ret2
          exact ⟨_, _, rfl, HP.out, fun h => absurd (HBB.out.2 h) (by simp), HB.out.trans (hbl.out.mono HB.out.size)⟩
        | true =>
          have HP : Hid ((1 ≤ r.kind ∧ r.kind ≤ 5) → true = decide (Bare r)) := fun _ => (decide_eq_true (HBB.out.1 rfl)).symm
          have HBA := Lib.hid ((bare_1 HK.out).1 (HBB.out.1 rfl))
          go_wp2_with fail
          refine (rPlanned_c wr _ _ r.steps r.after (H1.out.after hbl.out) (H2.out.after hbl.out) HBA.out.2.1 (by rw [HBA.out.2.2.1]; exact HBA.out.2.1) HBA.out.2.2.2).mono ?_
          rintro e w11 ⟨v, rfl, hv, hb11⟩
          have HV := Lib.hid hv.sl
          have HB11 : Hid (Below w.heap.size w w11) := HB.out.trans ((hbl.out.trans (hb11.mono hbl.out.size)).mono HB.out.size)
          clear hv hb11
          go_wp2_with fail
          go_ret2
          exact ⟨_, _, rfl, HP.out, fun _ => by rw [HN.out]; exact HV.out, HB11.out⟩
  by_cases cz : r.steps.length ≤ 12
  rotate_left
  · have HBR : Hid (Bare r ↔ false = true ∧ ∀ a ∈ r.after, a.length ≤ 12) := (show _ ↔ _ from ⟨fun e => absurd ((bare_1 hk).1 e).2.1 cz, fun e => absurd e.1 (by simp)⟩)
    have q5 : decide ((r.steps.length : Int) ≤ 12) = false := decide_eq_false (by omega)
    have q5z : ¬ (r.steps.length : Int) ≤ 12 := by omega
    have q1 : (r.place == 0) = true := by rw [beq_iff_eq]; omega
    have q2 : (r.id == 0) = true := by rw [beq_iff_eq]; omega
    have q3 : (r.lease == 0) = true := by rw [beq_iff_eq]; omega
    have q4 : ((r.ans : Int) == 0) = true := by rw [beq_iff_eq]; omega
    clear hk cp ci cl ca cz
    go_enter Tryz.func30, Tryz.ntmps30
    go_upto_region 1 with fail
    rw [← hW]
    clear hW
    go_wp2_with fail
    go_loopg [5, 6] r.after.length (fun g o t wx => ∃ (i : Nat) (b : Bool), i ≤ r.after.length ∧ g = r.after.length - i ∧ o = .bool b ∧ t = .int .i64 (i : Int) ∧ Hid (b = true ↔ false = true ∧ ∀ j, j < i → (r.after.getD j []).length ≤ 12) ∧ Hid (Below W0.heap.size W0 wx))
    case atStart => exact ⟨0, _, Nat.zero_le _, rfl, rfl, rfl, (show _ ↔ _ from ⟨fun h => ⟨h, fun j hj => absurd hj (by omega)⟩, fun h => h.1⟩), Below.refl _ _⟩
    case round =>
      clear x0 x1 x2 x3 x4 x5 x6 lx
      obtain ⟨i, b, hi, rfl, rfl, rfl, hb, hbl⟩ := hrel
      have x5 : wr.cell? ⟨w.heap.size, 5, none⟩ = some (.slice pS r.steps.length cS) := (BX.out.after hbl.out).cell 5
      have x6 : wr.cell? ⟨w.heap.size, 6, none⟩ = some (.slice pL r.after.length cL) := (BX.out.after hbl.out).cell 6
      have lx := (BX.out.after hbl.out).lt
      by_cases hlt : i < r.after.length
      · obtain ⟨u, hu, hui⟩ := H2.out
        obtain ⟨ba, oa, ca, ea, _, _, la, hca⟩ := (hu.after hbl.out).at_ (by omega)
        injection ea with ea _ ec
        subst ea ec
        obtain ⟨pu, cu, hpu, _, _, _⟩ := (hui i hlt).2.shape
        have a0 : wr.cell? ⟨ba, oa + i, none⟩ = some (.slice pu (r.after.getD i []).length cu) := by have := hca i hlt 0 (by omega); rw [← hpu]; simpa using this
        have il : (i : Int) < (r.after.length : Int) := by omega
        have i0 : (0 : Int) ≤ (i : Int) := by omega
        clear hca hu hui hpu
        cases b with
        | false =>
          go_wp2_with fail
          go_roundg (r.after.length - (i + 1))
          case measure => omega
          case rel =>
            refine ⟨i + 1, false, by omega, rfl, rfl, by go_num, ?_, hbl.out⟩
            show _ ↔ _
            refine ⟨fun h => absurd h (by simp), fun h => hb.out.2 ⟨h.1, fun j hj => h.2 j (by omega)⟩⟩
        | true =>
          by_cases hle : (r.after.getD i []).length ≤ 12
          · have e1 : decide (((r.after.getD i []).length : Int) ≤ 12) = true := decide_eq_true (by omega)
            have e1z : ((r.after.getD i []).length : Int) ≤ 12 := by omega
            have HLE := Lib.hid hle
            obtain ⟨nn, hnn⟩ : ∃ nn, (r.after.getD i []).length = nn := ⟨_, rfl⟩
            rw [hnn] at a0 e1 e1z
            clear hle hnn
            go_wp2_with fail
            go_roundg (r.after.length - (i + 1))
            case measure => omega
            case rel =>
              refine ⟨i + 1, true, by omega, rfl, rfl, by go_num, ?_, hbl.out⟩
              show _ ↔ _
              refine ⟨fun _ => ⟨(hb.out.1 (by simp)).1, fun j hj => ?_⟩, fun _ => rfl⟩
              rcases Nat.lt_or_ge j i with h | h
              · exact (hb.out.1 (by simp)).2 j h
              · obtain rfl : j = i := by omega
                exact HLE.out
          · have e1 : decide (((r.after.getD i []).length : Int) ≤ 12) = false := decide_eq_false (by omega)
            have e1z : ¬ ((r.after.getD i []).length : Int) ≤ 12 := by omega
            have HLE := Lib.hid hle
            obtain ⟨nn, hnn⟩ : ∃ nn, (r.after.getD i []).length = nn := ⟨_, rfl⟩
            rw [hnn] at a0 e1 e1z
            clear hle hnn
            go_wp2_with fail
            go_roundg (r.after.length - (i + 1))
            case measure => omega
            case rel =>
              refine ⟨i + 1, false, by omega, rfl, rfl, by go_num, ?_, hbl.out⟩
              show _ ↔ _
              exact ⟨fun h => absurd h (by simp), fun h => absurd (h.2 i (by omega)) HLE.out⟩
      · obtain rfl : i = r.after.length := by omega
        have HBB : Hid (b = true ↔ Bare r) := by
          show _ ↔ _
          rw [hb.out, HBR.out]
          refine and_congr_right fun _ => ⟨fun h a ha => ?_, fun h j hj => ?_⟩
          · obtain ⟨j, hj, rfl⟩ := List.mem_iff_getElem.1 ha
            have := h j hj
            rw [List.getD_eq_getElem?_getD, List.getElem?_eq_getElem hj] at this
            exact this
          · rw [List.getD_eq_getElem?_getD, List.getElem?_eq_getElem hj]
            exact h _ (List.getElem_mem hj)
        clear hb hlt
        cases b with
        | false =>
          have HP : Hid ((1 ≤ r.kind ∧ r.kind ≤ 5) → false = decide (Bare r)) := fun _ => (decide_eq_false (fun e => by have := HBB.out.2 e; cases this)).symm
          go_wp2_with fail
          go_ret2
          exact ⟨_, _, rfl, HP.out, fun h => absurd (HBB.out.2 h) (by simp), HB.out.trans (hbl.out.mono HB.out.size)⟩
        | true =>
          have HP : Hid ((1 ≤ r.kind ∧ r.kind ≤ 5) → true = decide (Bare r)) := fun _ => (decide_eq_true (HBB.out.1 rfl)).symm
          have HBA := Lib.hid ((bare_1 HK.out).1 (HBB.out.1 rfl))
          go_wp2_with fail
          refine (rPlanned_c wr _ _ r.steps r.after (H1.out.after hbl.out) (H2.out.after hbl.out) HBA.out.2.1 (by rw [HBA.out.2.2.1]; exact HBA.out.2.1) HBA.out.2.2.2).mono ?_
          rintro e w11 ⟨v, rfl, hv, hb11⟩
          have HV := Lib.hid hv.sl
          have HB11 : Hid (Below w.heap.size w w11) := HB.out.trans ((hbl.out.trans (hb11.mono hbl.out.size)).mono HB.out.size)
          clear hv hb11
          go_wp2_with fail
          go_ret2
          exact ⟨_, _, rfl, HP.out, fun _ => by rw [HN.out]; exact HV.out, HB11.out⟩
  obtain ⟨zq, hzq⟩ : ∃ z, ((r.after.length : Int) == (r.steps.length : Int)) = z := ⟨_, rfl⟩
  have HBR : Hid (Bare r ↔ zq = true ∧ ∀ a ∈ r.after, a.length ≤ 12) := (show _ ↔ _ from by rw [← hzq, beq_iff_eq, bare_1 hk]; simp [cp, ci, cl, ca, cz]; intro _; omega)
  have q1 : (r.place == 0) = true := by rw [beq_iff_eq]; omega
  have q2 : (r.id == 0) = true := by rw [beq_iff_eq]; omega
  have q3 : (r.lease == 0) = true := by rw [beq_iff_eq]; omega
  have q4 : ((r.ans : Int) == 0) = true := by rw [beq_iff_eq]; omega
  have q5 : decide ((r.steps.length : Int) ≤ 12) = true := decide_eq_true (by omega)
  have q5z : (r.steps.length : Int) ≤ 12 := by omega
  clear hk cp ci cl ca cz
  go_enter Tryz.func30, Tryz.ntmps30
  go_upto_region 1 with fail
  rw [← hW]
  clear hW
  go_wp2_with fail
  go_loopg [5, 6] r.after.length (fun g o t wx => ∃ (i : Nat) (b : Bool), i ≤ r.after.length ∧ g = r.after.length - i ∧ o = .bool b ∧ t = .int .i64 (i : Int) ∧ Hid (b = true ↔ zq = true ∧ ∀ j, j < i → (r.after.getD j []).length ≤ 12) ∧ Hid (Below W0.heap.size W0 wx))
  case atStart => exact ⟨0, _, Nat.zero_le _, rfl, rfl, rfl, (show _ ↔ _ from ⟨fun h => ⟨h, fun j hj => absurd hj (by omega)⟩, fun h => h.1⟩), Below.refl _ _⟩
  case round =>
    clear x0 x1 x2 x3 x4 x5 x6 lx
    obtain ⟨i, b, hi, rfl, rfl, rfl, hb, hbl⟩ := hrel
    have x5 : wr.cell? ⟨w.heap.size, 5, none⟩ = some (.slice pS r.steps.length cS) := (BX.out.after hbl.out).cell 5
    have x6 : wr.cell? ⟨w.heap.size, 6, none⟩ = some (.slice pL r.after.length cL) := (BX.out.after hbl.out).cell 6
    have lx := (BX.out.after hbl.out).lt
    by_cases hlt : i < r.after.length
    · obtain ⟨u, hu, hui⟩ := H2.out
      obtain ⟨ba, oa, ca, ea, _, _, la, hca⟩ := (hu.after hbl.out).at_ (by omega)
      injection ea with ea _ ec
      subst ea ec
      obtain ⟨pu, cu, hpu, _, _, _⟩ := (hui i hlt).2.shape
      have a0 : wr.cell? ⟨ba, oa + i, none⟩ = some (.slice pu (r.after.getD i []).length cu) := by have := hca i hlt 0 (by omega); rw [← hpu]; simpa using this
      have il : (i : Int) < (r.after.length : Int) := by omega
      have i0 : (0 : Int) ≤ (i : Int) := by omega
      clear hca hu hui hpu
      cases b with
      | false =>
        go_wp2_with fail
        go_roundg (r.after.length - (i + 1))
        case measure => omega
        case rel =>
          refine ⟨i + 1, false, by omega, rfl, rfl, by go_num, ?_, hbl.out⟩
          show _ ↔ _
          refine ⟨fun h => absurd h (by simp), fun h => hb.out.2 ⟨h.1, fun j hj => h.2 j (by omega)⟩⟩
      | true =>
        by_cases hle : (r.after.getD i []).length ≤ 12
        · have e1 : decide (((r.after.getD i []).length : Int) ≤ 12) = true := decide_eq_true (by omega)
          have e1z : ((r.after.getD i []).length : Int) ≤ 12 := by omega
          have HLE := Lib.hid hle
          obtain ⟨nn, hnn⟩ : ∃ nn, (r.after.getD i []).length = nn := ⟨_, rfl⟩
          rw [hnn] at a0 e1 e1z
          clear hle hnn
          go_wp2_with fail
          go_roundg (r.after.length - (i + 1))
          case measure => omega
          case rel =>
            refine ⟨i + 1, true, by omega, rfl, rfl, by go_num, ?_, hbl.out⟩
            show _ ↔ _
            refine ⟨fun _ => ⟨(hb.out.1 (by simp)).1, fun j hj => ?_⟩, fun _ => rfl⟩
            rcases Nat.lt_or_ge j i with h | h
            · exact (hb.out.1 (by simp)).2 j h
            · obtain rfl : j = i := by omega
              exact HLE.out
        · have e1 : decide (((r.after.getD i []).length : Int) ≤ 12) = false := decide_eq_false (by omega)
          have e1z : ¬ ((r.after.getD i []).length : Int) ≤ 12 := by omega
          have HLE := Lib.hid hle
          obtain ⟨nn, hnn⟩ : ∃ nn, (r.after.getD i []).length = nn := ⟨_, rfl⟩
          rw [hnn] at a0 e1 e1z
          clear hle hnn
          go_wp2_with fail
          go_roundg (r.after.length - (i + 1))
          case measure => omega
          case rel =>
            refine ⟨i + 1, false, by omega, rfl, rfl, by go_num, ?_, hbl.out⟩
            show _ ↔ _
            exact ⟨fun h => absurd h (by simp), fun h => absurd (h.2 i (by omega)) HLE.out⟩
    · obtain rfl : i = r.after.length := by omega
      have HBB : Hid (b = true ↔ Bare r) := by
        show _ ↔ _
        rw [hb.out, HBR.out]
        refine and_congr_right fun _ => ⟨fun h a ha => ?_, fun h j hj => ?_⟩
        · obtain ⟨j, hj, rfl⟩ := List.mem_iff_getElem.1 ha
          have := h j hj
          rw [List.getD_eq_getElem?_getD, List.getElem?_eq_getElem hj] at this
          exact this
        · rw [List.getD_eq_getElem?_getD, List.getElem?_eq_getElem hj]
          exact h _ (List.getElem_mem hj)
      clear hb hlt
      cases b with
      | false =>
        have HP : Hid ((1 ≤ r.kind ∧ r.kind ≤ 5) → false = decide (Bare r)) := fun _ => (decide_eq_false (fun e => by have := HBB.out.2 e; cases this)).symm
        go_wp2_with fail
        go_ret2
        exact ⟨_, _, rfl, HP.out, fun h => absurd (HBB.out.2 h) (by simp), HB.out.trans (hbl.out.mono HB.out.size)⟩
      | true =>
        have HP : Hid ((1 ≤ r.kind ∧ r.kind ≤ 5) → true = decide (Bare r)) := fun _ => (decide_eq_true (HBB.out.1 rfl)).symm
        have HBA := Lib.hid ((bare_1 HK.out).1 (HBB.out.1 rfl))
        go_wp2_with fail
        refine (rPlanned_c wr _ _ r.steps r.after (H1.out.after hbl.out) (H2.out.after hbl.out) HBA.out.2.1 (by rw [HBA.out.2.2.1]; exact HBA.out.2.1) HBA.out.2.2.2).mono ?_
        rintro e w11 ⟨v, rfl, hv, hb11⟩
        have HV := Lib.hid hv.sl
        have HB11 : Hid (Below w.heap.size w w11) := HB.out.trans ((hbl.out.trans (hb11.mono hbl.out.size)).mono HB.out.size)
        clear hv hb11
        go_wp2_with fail
        go_ret2
        exact ⟨_, _, rfl, HP.out, fun _ => by rw [HN.out]; exact HV.out, HB11.out⟩
set_option maxRecDepth 100000 in
set_option maxHeartbeats 2000000 in
theorem rNumbers_1c (w : World) (v : Value) (r : Rec) (h : IsR w v r) (hk : r.kind = 1) (hs : r.steps = []) (ha : r.after = []) : Calls Tryz.prog 30 #[v] w (RetN w r) := by
  obtain ⟨hok, vs, va, rfl, h1, h2⟩ := h
  obtain ⟨pS, cS, rfl, _, _, _⟩ := h1.2.shape
  obtain ⟨pL, cL, rfl⟩ : ∃ pL cL, va = .slice pL r.after.length cL := by
    obtain ⟨_, k2, _⟩ := h2
    obtain ⟨a, b, e', _⟩ := k2.shape
    exact ⟨a, b, e'⟩
  obtain ⟨W0, hW⟩ : ∃ W0, W0 = w.alloc (.cells #[.int .u8 (r.kind : Int), .int .i64 r.place, .int .i64 r.id, .int .i64 r.lease, .int .u8 (r.ans : Int), .slice pS r.steps.length cS, .slice pL r.after.length cL] 29) := ⟨_, rfl⟩
  have hb0 : Below w.heap.size w W0 := by rw [hW]; exact held_alloc (Below.refl _ _)
  have hbx : Box W0 w.heap.size #[.int .u8 (r.kind : Int), .int .i64 r.place, .int .i64 r.id, .int .i64 r.lease, .int .u8 (r.ans : Int), .slice pS r.steps.length cS, .slice pL r.after.length cL] 29 := by rw [hW]; exact Box.new _ _ _
  have HOK := Lib.hid hok
  have H1 := Lib.hid (h1.after hb0)
  have H2 := Lib.hid (h2.after hb0)
  have HB := Lib.hid hb0
  have BX := Lib.hid hbx
  have x0 : W0.cell? ⟨w.heap.size, 0, none⟩ = some (.int .u8 (r.kind : Int)) := hbx.cell 0
  have x1 : W0.cell? ⟨w.heap.size, 1, none⟩ = some (.int .i64 r.place) := hbx.cell 1
  have x2 : W0.cell? ⟨w.heap.size, 2, none⟩ = some (.int .i64 r.id) := hbx.cell 2
  have x3 : W0.cell? ⟨w.heap.size, 3, none⟩ = some (.int .i64 r.lease) := hbx.cell 3
  have x4 : W0.cell? ⟨w.heap.size, 4, none⟩ = some (.int .u8 (r.ans : Int)) := hbx.cell 4
  have x5 : W0.cell? ⟨w.heap.size, 5, none⟩ = some (.slice pS r.steps.length cS) := hbx.cell 5
  have x6 : W0.cell? ⟨w.heap.size, 6, none⟩ = some (.slice pL r.after.length cL) := hbx.cell 6
  have lx := hbx.lt
  clear hok h1 h2 hb0 hbx
  show Calls _ _ #[.agg #[.int .u8 (r.kind : Int), .int .i64 r.place, .int .i64 r.id, .int .i64 r.lease, .int .u8 (r.ans : Int), .slice pS r.steps.length cS, .slice pL r.after.length cL]] w _
  have k1 : ((r.kind : Int) == 1) = true := by rw [beq_iff_eq]; omega
  have b1 : ((r.steps.length : Int) == 0) = true := by rw [hs]; rfl
  have b2 : ((r.after.length : Int) == 0) = true := by rw [ha]; rfl
  clear hs ha
  have HN := Lib.hid (nums_1 hk)
  have HK := Lib.hid hk
  by_cases cp : r.place = 0
  rotate_left
  · have HBR : Hid (Bare r ↔ false = true ∧ ∀ a ∈ r.after, a.length ≤ 12) := (show _ ↔ _ from ⟨fun e => absurd ((bare_1 hk).1 e).1.1 cp, fun e => absurd e.1 (by simp)⟩)
    have q1 : (r.place == 0) = false := by rw [beq_eq_false_iff_ne]; omega
    clear hk cp
    go_enter Tryz.func30, Tryz.ntmps30
    go_upto_region 1 with fail
    rw [← hW]
    clear hW
    go_wp2_with fail
    go_loopg [5, 6] r.after.length (fun g o t wx => ∃ (i : Nat) (b : Bool), i ≤ r.after.length ∧ g = r.after.length - i ∧ o = .bool b ∧ t = .int .i64 (i : Int) ∧ Hid (b = true ↔ false = true ∧ ∀ j, j < i → (r.after.getD j []).length ≤ 12) ∧ Hid (Below W0.heap.size W0 wx))
    case atStart => exact ⟨0, _, Nat.zero_le _, rfl, rfl, rfl, (show _ ↔ _ from ⟨fun h => ⟨h, fun j hj => absurd hj (by omega)⟩, fun h => h.1⟩), Below.refl _ _⟩
    case round =>
      clear x0 x1 x2 x3 x4 x5 x6 lx
      obtain ⟨i, b, hi, rfl, rfl, rfl, hb, hbl⟩ := hrel
      have x5 : wr.cell? ⟨w.heap.size, 5, none⟩ = some (.slice pS r.steps.length cS) := (BX.out.after hbl.out).cell 5
      have x6 : wr.cell? ⟨w.heap.size, 6, none⟩ = some (.slice pL r.after.length cL) := (BX.out.after hbl.out).cell 6
      have lx := (BX.out.after hbl.out).lt
      by_cases hlt : i < r.after.length
      · obtain ⟨u, hu, hui⟩ := H2.out
        obtain ⟨ba, oa, ca, ea, _, _, la, hca⟩ := (hu.after hbl.out).at_ (by omega)
        injection ea with ea _ ec
        subst ea ec
        obtain ⟨pu, cu, hpu, _, _, _⟩ := (hui i hlt).2.shape
        have a0 : wr.cell? ⟨ba, oa + i, none⟩ = some (.slice pu (r.after.getD i []).length cu) := by have := hca i hlt 0 (by omega); rw [← hpu]; simpa using this
        have il : (i : Int) < (r.after.length : Int) := by omega
        have i0 : (0 : Int) ≤ (i : Int) := by omega
        clear hca hu hui hpu
        cases b with
        | false =>
          go_wp2_with fail
          go_roundg (r.after.length - (i + 1))
          case measure => omega
          case rel =>
            refine ⟨i + 1, false, by omega, rfl, rfl, by go_num, ?_, hbl.out⟩
            show _ ↔ _
            refine ⟨fun h => absurd h (by simp), fun h => hb.out.2 ⟨h.1, fun j hj => h.2 j (by omega)⟩⟩
        | true =>
          by_cases hle : (r.after.getD i []).length ≤ 12
          · have e1 : decide (((r.after.getD i []).length : Int) ≤ 12) = true := decide_eq_true (by omega)
            have e1z : ((r.after.getD i []).length : Int) ≤ 12 := by omega
            have HLE := Lib.hid hle
            obtain ⟨nn, hnn⟩ : ∃ nn, (r.after.getD i []).length = nn := ⟨_, rfl⟩
            rw [hnn] at a0 e1 e1z
            clear hle hnn
            go_wp2_with fail
            go_roundg (r.after.length - (i + 1))
            case measure => omega
            case rel =>
              refine ⟨i + 1, true, by omega, rfl, rfl, by go_num, ?_, hbl.out⟩
              show _ ↔ _
              refine ⟨fun _ => ⟨(hb.out.1 (by simp)).1, fun j hj => ?_⟩, fun _ => rfl⟩
              rcases Nat.lt_or_ge j i with h | h
              · exact (hb.out.1 (by simp)).2 j h
              · obtain rfl : j = i := by omega
                exact HLE.out
          · have e1 : decide (((r.after.getD i []).length : Int) ≤ 12) = false := decide_eq_false (by omega)
            have e1z : ¬ ((r.after.getD i []).length : Int) ≤ 12 := by omega
            have HLE := Lib.hid hle
            obtain ⟨nn, hnn⟩ : ∃ nn, (r.after.getD i []).length = nn := ⟨_, rfl⟩
            rw [hnn] at a0 e1 e1z
            clear hle hnn
            go_wp2_with fail
            go_roundg (r.after.length - (i + 1))
            case measure => omega
            case rel =>
              refine ⟨i + 1, false, by omega, rfl, rfl, by go_num, ?_, hbl.out⟩
              show _ ↔ _
              exact ⟨fun h => absurd h (by simp), fun h => absurd (h.2 i (by omega)) HLE.out⟩
      · obtain rfl : i = r.after.length := by omega
        have HBB : Hid (b = true ↔ Bare r) := by
          show _ ↔ _
          rw [hb.out, HBR.out]
          refine and_congr_right fun _ => ⟨fun h a ha => ?_, fun h j hj => ?_⟩
          · obtain ⟨j, hj, rfl⟩ := List.mem_iff_getElem.1 ha
            have := h j hj
            rw [List.getD_eq_getElem?_getD, List.getElem?_eq_getElem hj] at this
            exact this
          · rw [List.getD_eq_getElem?_getD, List.getElem?_eq_getElem hj]
            exact h _ (List.getElem_mem hj)
        clear hb hlt
        cases b with
        | false =>
          have HP : Hid ((1 ≤ r.kind ∧ r.kind ≤ 5) → false = decide (Bare r)) := fun _ => (decide_eq_false (fun e => by have := HBB.out.2 e; cases this)).symm
          go_wp2_with fail
          go_ret2
          exact ⟨_, _, rfl, HP.out, fun h => absurd (HBB.out.2 h) (by simp), HB.out.trans (hbl.out.mono HB.out.size)⟩
        | true =>
          have HP : Hid ((1 ≤ r.kind ∧ r.kind ≤ 5) → true = decide (Bare r)) := fun _ => (decide_eq_true (HBB.out.1 rfl)).symm
          have HBA := Lib.hid ((bare_1 HK.out).1 (HBB.out.1 rfl))
          go_wp2_with fail
          refine (rPlanned_c wr _ _ r.steps r.after (H1.out.after hbl.out) (H2.out.after hbl.out) HBA.out.2.1 (by rw [HBA.out.2.2.1]; exact HBA.out.2.1) HBA.out.2.2.2).mono ?_
          rintro e w11 ⟨v, rfl, hv, hb11⟩
          have HV := Lib.hid hv.sl
          have HB11 : Hid (Below w.heap.size w w11) := HB.out.trans ((hbl.out.trans (hb11.mono hbl.out.size)).mono HB.out.size)
          clear hv hb11
          go_wp2_with fail
          go_ret2
          exact ⟨_, _, rfl, HP.out, fun _ => by rw [HN.out]; exact HV.out, HB11.out⟩
  by_cases ci : r.id = 0
  rotate_left
  · have HBR : Hid (Bare r ↔ false = true ∧ ∀ a ∈ r.after, a.length ≤ 12) := (show _ ↔ _ from ⟨fun e => absurd ((bare_1 hk).1 e).1.2.1 ci, fun e => absurd e.1 (by simp)⟩)
    have q2 : (r.id == 0) = false := by rw [beq_eq_false_iff_ne]; omega
    have q1 : (r.place == 0) = true := by rw [beq_iff_eq]; omega
    clear hk cp ci
    go_enter Tryz.func30, Tryz.ntmps30
    go_upto_region 1 with fail
    rw [← hW]
    clear hW
    go_wp2_with fail
    go_loopg [5, 6] r.after.length (fun g o t wx => ∃ (i : Nat) (b : Bool), i ≤ r.after.length ∧ g = r.after.length - i ∧ o = .bool b ∧ t = .int .i64 (i : Int) ∧ Hid (b = true ↔ false = true ∧ ∀ j, j < i → (r.after.getD j []).length ≤ 12) ∧ Hid (Below W0.heap.size W0 wx))
    case atStart => exact ⟨0, _, Nat.zero_le _, rfl, rfl, rfl, (show _ ↔ _ from ⟨fun h => ⟨h, fun j hj => absurd hj (by omega)⟩, fun h => h.1⟩), Below.refl _ _⟩
    case round =>
      clear x0 x1 x2 x3 x4 x5 x6 lx
      obtain ⟨i, b, hi, rfl, rfl, rfl, hb, hbl⟩ := hrel
      have x5 : wr.cell? ⟨w.heap.size, 5, none⟩ = some (.slice pS r.steps.length cS) := (BX.out.after hbl.out).cell 5
      have x6 : wr.cell? ⟨w.heap.size, 6, none⟩ = some (.slice pL r.after.length cL) := (BX.out.after hbl.out).cell 6
      have lx := (BX.out.after hbl.out).lt
      by_cases hlt : i < r.after.length
      · obtain ⟨u, hu, hui⟩ := H2.out
        obtain ⟨ba, oa, ca, ea, _, _, la, hca⟩ := (hu.after hbl.out).at_ (by omega)
        injection ea with ea _ ec
        subst ea ec
        obtain ⟨pu, cu, hpu, _, _, _⟩ := (hui i hlt).2.shape
        have a0 : wr.cell? ⟨ba, oa + i, none⟩ = some (.slice pu (r.after.getD i []).length cu) := by have := hca i hlt 0 (by omega); rw [← hpu]; simpa using this
        have il : (i : Int) < (r.after.length : Int) := by omega
        have i0 : (0 : Int) ≤ (i : Int) := by omega
        clear hca hu hui hpu
        cases b with
        | false =>
          go_wp2_with fail
          go_roundg (r.after.length - (i + 1))
          case measure => omega
          case rel =>
            refine ⟨i + 1, false, by omega, rfl, rfl, by go_num, ?_, hbl.out⟩
            show _ ↔ _
            refine ⟨fun h => absurd h (by simp), fun h => hb.out.2 ⟨h.1, fun j hj => h.2 j (by omega)⟩⟩
        | true =>
          by_cases hle : (r.after.getD i []).length ≤ 12
          · have e1 : decide (((r.after.getD i []).length : Int) ≤ 12) = true := decide_eq_true (by omega)
            have e1z : ((r.after.getD i []).length : Int) ≤ 12 := by omega
            have HLE := Lib.hid hle
            obtain ⟨nn, hnn⟩ : ∃ nn, (r.after.getD i []).length = nn := ⟨_, rfl⟩
            rw [hnn] at a0 e1 e1z
            clear hle hnn
            go_wp2_with fail
            go_roundg (r.after.length - (i + 1))
            case measure => omega
            case rel =>
              refine ⟨i + 1, true, by omega, rfl, rfl, by go_num, ?_, hbl.out⟩
              show _ ↔ _
              refine ⟨fun _ => ⟨(hb.out.1 (by simp)).1, fun j hj => ?_⟩, fun _ => rfl⟩
              rcases Nat.lt_or_ge j i with h | h
              · exact (hb.out.1 (by simp)).2 j h
              · obtain rfl : j = i := by omega
                exact HLE.out
          · have e1 : decide (((r.after.getD i []).length : Int) ≤ 12) = false := decide_eq_false (by omega)
            have e1z : ¬ ((r.after.getD i []).length : Int) ≤ 12 := by omega
            have HLE := Lib.hid hle
            obtain ⟨nn, hnn⟩ : ∃ nn, (r.after.getD i []).length = nn := ⟨_, rfl⟩
            rw [hnn] at a0 e1 e1z
            clear hle hnn
            go_wp2_with fail
            go_roundg (r.after.length - (i + 1))
            case measure => omega
            case rel =>
              refine ⟨i + 1, false, by omega, rfl, rfl, by go_num, ?_, hbl.out⟩
              show _ ↔ _
              exact ⟨fun h => absurd h (by simp), fun h => absurd (h.2 i (by omega)) HLE.out⟩
      · obtain rfl : i = r.after.length := by omega
        have HBB : Hid (b = true ↔ Bare r) := by
          show _ ↔ _
          rw [hb.out, HBR.out]
          refine and_congr_right fun _ => ⟨fun h a ha => ?_, fun h j hj => ?_⟩
          · obtain ⟨j, hj, rfl⟩ := List.mem_iff_getElem.1 ha
            have := h j hj
            rw [List.getD_eq_getElem?_getD, List.getElem?_eq_getElem hj] at this
            exact this
          · rw [List.getD_eq_getElem?_getD, List.getElem?_eq_getElem hj]
            exact h _ (List.getElem_mem hj)
        clear hb hlt
        cases b with
        | false =>
          have HP : Hid ((1 ≤ r.kind ∧ r.kind ≤ 5) → false = decide (Bare r)) := fun _ => (decide_eq_false (fun e => by have := HBB.out.2 e; cases this)).symm
          go_wp2_with fail
          go_ret2
          exact ⟨_, _, rfl, HP.out, fun h => absurd (HBB.out.2 h) (by simp), HB.out.trans (hbl.out.mono HB.out.size)⟩
        | true =>
          have HP : Hid ((1 ≤ r.kind ∧ r.kind ≤ 5) → true = decide (Bare r)) := fun _ => (decide_eq_true (HBB.out.1 rfl)).symm
          have HBA := Lib.hid ((bare_1 HK.out).1 (HBB.out.1 rfl))
          go_wp2_with fail
          refine (rPlanned_c wr _ _ r.steps r.after (H1.out.after hbl.out) (H2.out.after hbl.out) HBA.out.2.1 (by rw [HBA.out.2.2.1]; exact HBA.out.2.1) HBA.out.2.2.2).mono ?_
          rintro e w11 ⟨v, rfl, hv, hb11⟩
          have HV := Lib.hid hv.sl
          have HB11 : Hid (Below w.heap.size w w11) := HB.out.trans ((hbl.out.trans (hb11.mono hbl.out.size)).mono HB.out.size)
          clear hv hb11
          go_wp2_with fail
          go_ret2
          exact ⟨_, _, rfl, HP.out, fun _ => by rw [HN.out]; exact HV.out, HB11.out⟩
  by_cases cl : r.lease = 0
  rotate_left
  · have HBR : Hid (Bare r ↔ false = true ∧ ∀ a ∈ r.after, a.length ≤ 12) := (show _ ↔ _ from ⟨fun e => absurd ((bare_1 hk).1 e).1.2.2.1 cl, fun e => absurd e.1 (by simp)⟩)
    have q3 : (r.lease == 0) = false := by rw [beq_eq_false_iff_ne]; omega
    have q1 : (r.place == 0) = true := by rw [beq_iff_eq]; omega
    have q2 : (r.id == 0) = true := by rw [beq_iff_eq]; omega
    clear hk cp ci cl
    go_enter Tryz.func30, Tryz.ntmps30
    go_upto_region 1 with fail
    rw [← hW]
    clear hW
    go_wp2_with fail
    go_loopg [5, 6] r.after.length (fun g o t wx => ∃ (i : Nat) (b : Bool), i ≤ r.after.length ∧ g = r.after.length - i ∧ o = .bool b ∧ t = .int .i64 (i : Int) ∧ Hid (b = true ↔ false = true ∧ ∀ j, j < i → (r.after.getD j []).length ≤ 12) ∧ Hid (Below W0.heap.size W0 wx))
    case atStart => exact ⟨0, _, Nat.zero_le _, rfl, rfl, rfl, (show _ ↔ _ from ⟨fun h => ⟨h, fun j hj => absurd hj (by omega)⟩, fun h => h.1⟩), Below.refl _ _⟩
    case round =>
      clear x0 x1 x2 x3 x4 x5 x6 lx
      obtain ⟨i, b, hi, rfl, rfl, rfl, hb, hbl⟩ := hrel
      have x5 : wr.cell? ⟨w.heap.size, 5, none⟩ = some (.slice pS r.steps.length cS) := (BX.out.after hbl.out).cell 5
      have x6 : wr.cell? ⟨w.heap.size, 6, none⟩ = some (.slice pL r.after.length cL) := (BX.out.after hbl.out).cell 6
      have lx := (BX.out.after hbl.out).lt
      by_cases hlt : i < r.after.length
      · obtain ⟨u, hu, hui⟩ := H2.out
        obtain ⟨ba, oa, ca, ea, _, _, la, hca⟩ := (hu.after hbl.out).at_ (by omega)
        injection ea with ea _ ec
        subst ea ec
        obtain ⟨pu, cu, hpu, _, _, _⟩ := (hui i hlt).2.shape
        have a0 : wr.cell? ⟨ba, oa + i, none⟩ = some (.slice pu (r.after.getD i []).length cu) := by have := hca i hlt 0 (by omega); rw [← hpu]; simpa using this
        have il : (i : Int) < (r.after.length : Int) := by omega
        have i0 : (0 : Int) ≤ (i : Int) := by omega
        clear hca hu hui hpu
        cases b with
        | false =>
          go_wp2_with fail
          go_roundg (r.after.length - (i + 1))
          case measure => omega
          case rel =>
            refine ⟨i + 1, false, by omega, rfl, rfl, by go_num, ?_, hbl.out⟩
            show _ ↔ _
            refine ⟨fun h => absurd h (by simp), fun h => hb.out.2 ⟨h.1, fun j hj => h.2 j (by omega)⟩⟩
        | true =>
          by_cases hle : (r.after.getD i []).length ≤ 12
          · have e1 : decide (((r.after.getD i []).length : Int) ≤ 12) = true := decide_eq_true (by omega)
            have e1z : ((r.after.getD i []).length : Int) ≤ 12 := by omega
            have HLE := Lib.hid hle
            obtain ⟨nn, hnn⟩ : ∃ nn, (r.after.getD i []).length = nn := ⟨_, rfl⟩
            rw [hnn] at a0 e1 e1z
            clear hle hnn
            go_wp2_with fail
            go_roundg (r.after.length - (i + 1))
            case measure => omega
            case rel =>
              refine ⟨i + 1, true, by omega, rfl, rfl, by go_num, ?_, hbl.out⟩
              show _ ↔ _
              refine ⟨fun _ => ⟨(hb.out.1 (by simp)).1, fun j hj => ?_⟩, fun _ => rfl⟩
              rcases Nat.lt_or_ge j i with h | h
              · exact (hb.out.1 (by simp)).2 j h
              · obtain rfl : j = i := by omega
                exact HLE.out
          · have e1 : decide (((r.after.getD i []).length : Int) ≤ 12) = false := decide_eq_false (by omega)
            have e1z : ¬ ((r.after.getD i []).length : Int) ≤ 12 := by omega
            have HLE := Lib.hid hle
            obtain ⟨nn, hnn⟩ : ∃ nn, (r.after.getD i []).length = nn := ⟨_, rfl⟩
            rw [hnn] at a0 e1 e1z
            clear hle hnn
            go_wp2_with fail
            go_roundg (r.after.length - (i + 1))
            case measure => omega
            case rel =>
              refine ⟨i + 1, false, by omega, rfl, rfl, by go_num, ?_, hbl.out⟩
              show _ ↔ _
              exact ⟨fun h => absurd h (by simp), fun h => absurd (h.2 i (by omega)) HLE.out⟩
      · obtain rfl : i = r.after.length := by omega
        have HBB : Hid (b = true ↔ Bare r) := by
          show _ ↔ _
          rw [hb.out, HBR.out]
          refine and_congr_right fun _ => ⟨fun h a ha => ?_, fun h j hj => ?_⟩
          · obtain ⟨j, hj, rfl⟩ := List.mem_iff_getElem.1 ha
            have := h j hj
            rw [List.getD_eq_getElem?_getD, List.getElem?_eq_getElem hj] at this
            exact this
          · rw [List.getD_eq_getElem?_getD, List.getElem?_eq_getElem hj]
            exact h _ (List.getElem_mem hj)
        clear hb hlt
        cases b with
        | false =>
          have HP : Hid ((1 ≤ r.kind ∧ r.kind ≤ 5) → false = decide (Bare r)) := fun _ => (decide_eq_false (fun e => by have := HBB.out.2 e; cases this)).symm
          go_wp2_with fail
          go_ret2
          exact ⟨_, _, rfl, HP.out, fun h => absurd (HBB.out.2 h) (by simp), HB.out.trans (hbl.out.mono HB.out.size)⟩
        | true =>
          have HP : Hid ((1 ≤ r.kind ∧ r.kind ≤ 5) → true = decide (Bare r)) := fun _ => (decide_eq_true (HBB.out.1 rfl)).symm
          have HBA := Lib.hid ((bare_1 HK.out).1 (HBB.out.1 rfl))
          go_wp2_with fail
          refine (rPlanned_c wr _ _ r.steps r.after (H1.out.after hbl.out) (H2.out.after hbl.out) HBA.out.2.1 (by rw [HBA.out.2.2.1]; exact HBA.out.2.1) HBA.out.2.2.2).mono ?_
          rintro e w11 ⟨v, rfl, hv, hb11⟩
          have HV := Lib.hid hv.sl
          have HB11 : Hid (Below w.heap.size w w11) := HB.out.trans ((hbl.out.trans (hb11.mono hbl.out.size)).mono HB.out.size)
          clear hv hb11
          go_wp2_with fail
          go_ret2
          exact ⟨_, _, rfl, HP.out, fun _ => by rw [HN.out]; exact HV.out, HB11.out⟩
  by_cases ca : r.ans = 0
  rotate_left
  · have HBR : Hid (Bare r ↔ false = true ∧ ∀ a ∈ r.after, a.length ≤ 12) := (show _ ↔ _ from ⟨fun e => absurd ((bare_1 hk).1 e).1.2.2.2 ca, fun e => absurd e.1 (by simp)⟩)
    have q4 : ((r.ans : Int) == 0) = false := by rw [beq_eq_false_iff_ne]; omega
    have q1 : (r.place == 0) = true := by rw [beq_iff_eq]; omega
    have q2 : (r.id == 0) = true := by rw [beq_iff_eq]; omega
    have q3 : (r.lease == 0) = true := by rw [beq_iff_eq]; omega
    clear hk cp ci cl ca
    go_enter Tryz.func30, Tryz.ntmps30
    go_upto_region 1 with fail
    rw [← hW]
    clear hW
    go_wp2_with fail
    go_loopg [5, 6] r.after.length (fun g o t wx => ∃ (i : Nat) (b : Bool), i ≤ r.after.length ∧ g = r.after.length - i ∧ o = .bool b ∧ t = .int .i64 (i : Int) ∧ Hid (b = true ↔ false = true ∧ ∀ j, j < i → (r.after.getD j []).length ≤ 12) ∧ Hid (Below W0.heap.size W0 wx))
    case atStart => exact ⟨0, _, Nat.zero_le _, rfl, rfl, rfl, (show _ ↔ _ from ⟨fun h => ⟨h, fun j hj => absurd hj (by omega)⟩, fun h => h.1⟩), Below.refl _ _⟩
    case round =>
      clear x0 x1 x2 x3 x4 x5 x6 lx
      obtain ⟨i, b, hi, rfl, rfl, rfl, hb, hbl⟩ := hrel
      have x5 : wr.cell? ⟨w.heap.size, 5, none⟩ = some (.slice pS r.steps.length cS) := (BX.out.after hbl.out).cell 5
      have x6 : wr.cell? ⟨w.heap.size, 6, none⟩ = some (.slice pL r.after.length cL) := (BX.out.after hbl.out).cell 6
      have lx := (BX.out.after hbl.out).lt
      by_cases hlt : i < r.after.length
      · obtain ⟨u, hu, hui⟩ := H2.out
        obtain ⟨ba, oa, ca, ea, _, _, la, hca⟩ := (hu.after hbl.out).at_ (by omega)
        injection ea with ea _ ec
        subst ea ec
        obtain ⟨pu, cu, hpu, _, _, _⟩ := (hui i hlt).2.shape
        have a0 : wr.cell? ⟨ba, oa + i, none⟩ = some (.slice pu (r.after.getD i []).length cu) := by have := hca i hlt 0 (by omega); rw [← hpu]; simpa using this
        have il : (i : Int) < (r.after.length : Int) := by omega
        have i0 : (0 : Int) ≤ (i : Int) := by omega
        clear hca hu hui hpu
        cases b with
        | false =>
          go_wp2_with fail
          go_roundg (r.after.length - (i + 1))
          case measure => omega
          case rel =>
            refine ⟨i + 1, false, by omega, rfl, rfl, by go_num, ?_, hbl.out⟩
            show _ ↔ _
            refine ⟨fun h => absurd h (by simp), fun h => hb.out.2 ⟨h.1, fun j hj => h.2 j (by omega)⟩⟩
        | true =>
          by_cases hle : (r.after.getD i []).length ≤ 12
          · have e1 : decide (((r.after.getD i []).length : Int) ≤ 12) = true := decide_eq_true (by omega)
            have e1z : ((r.after.getD i []).length : Int) ≤ 12 := by omega
            have HLE := Lib.hid hle
            obtain ⟨nn, hnn⟩ : ∃ nn, (r.after.getD i []).length = nn := ⟨_, rfl⟩
            rw [hnn] at a0 e1 e1z
            clear hle hnn
            go_wp2_with fail
            go_roundg (r.after.length - (i + 1))
            case measure => omega
            case rel =>
              refine ⟨i + 1, true, by omega, rfl, rfl, by go_num, ?_, hbl.out⟩
              show _ ↔ _
              refine ⟨fun _ => ⟨(hb.out.1 (by simp)).1, fun j hj => ?_⟩, fun _ => rfl⟩
              rcases Nat.lt_or_ge j i with h | h
              · exact (hb.out.1 (by simp)).2 j h
              · obtain rfl : j = i := by omega
                exact HLE.out
          · have e1 : decide (((r.after.getD i []).length : Int) ≤ 12) = false := decide_eq_false (by omega)
            have e1z : ¬ ((r.after.getD i []).length : Int) ≤ 12 := by omega
            have HLE := Lib.hid hle
            obtain ⟨nn, hnn⟩ : ∃ nn, (r.after.getD i []).length = nn := ⟨_, rfl⟩
            rw [hnn] at a0 e1 e1z
            clear hle hnn
            go_wp2_with fail
            go_roundg (r.after.length - (i + 1))
            case measure => omega
            case rel =>
              refine ⟨i + 1, false, by omega, rfl, rfl, by go_num, ?_, hbl.out⟩
              show _ ↔ _
              exact ⟨fun h => absurd h (by simp), fun h => absurd (h.2 i (by omega)) HLE.out⟩
      · obtain rfl : i = r.after.length := by omega
        have HBB : Hid (b = true ↔ Bare r) := by
          show _ ↔ _
          rw [hb.out, HBR.out]
          refine and_congr_right fun _ => ⟨fun h a ha => ?_, fun h j hj => ?_⟩
          · obtain ⟨j, hj, rfl⟩ := List.mem_iff_getElem.1 ha
            have := h j hj
            rw [List.getD_eq_getElem?_getD, List.getElem?_eq_getElem hj] at this
            exact this
          · rw [List.getD_eq_getElem?_getD, List.getElem?_eq_getElem hj]
            exact h _ (List.getElem_mem hj)
        clear hb hlt
        cases b with
        | false =>
          have HP : Hid ((1 ≤ r.kind ∧ r.kind ≤ 5) → false = decide (Bare r)) := fun _ => (decide_eq_false (fun e => by have := HBB.out.2 e; cases this)).symm
          go_wp2_with fail
          go_ret2
          exact ⟨_, _, rfl, HP.out, fun h => absurd (HBB.out.2 h) (by simp), HB.out.trans (hbl.out.mono HB.out.size)⟩
        | true =>
          have HP : Hid ((1 ≤ r.kind ∧ r.kind ≤ 5) → true = decide (Bare r)) := fun _ => (decide_eq_true (HBB.out.1 rfl)).symm
          have HBA := Lib.hid ((bare_1 HK.out).1 (HBB.out.1 rfl))
          go_wp2_with fail
          refine (rPlanned_c wr _ _ r.steps r.after (H1.out.after hbl.out) (H2.out.after hbl.out) HBA.out.2.1 (by rw [HBA.out.2.2.1]; exact HBA.out.2.1) HBA.out.2.2.2).mono ?_
          rintro e w11 ⟨v, rfl, hv, hb11⟩
          have HV := Lib.hid hv.sl
          have HB11 : Hid (Below w.heap.size w w11) := HB.out.trans ((hbl.out.trans (hb11.mono hbl.out.size)).mono HB.out.size)
          clear hv hb11
          go_wp2_with fail
          go_ret2
          exact ⟨_, _, rfl, HP.out, fun _ => by rw [HN.out]; exact HV.out, HB11.out⟩
  by_cases cz : r.steps.length ≤ 12
  rotate_left
  · have HBR : Hid (Bare r ↔ false = true ∧ ∀ a ∈ r.after, a.length ≤ 12) := (show _ ↔ _ from ⟨fun e => absurd ((bare_1 hk).1 e).2.1 cz, fun e => absurd e.1 (by simp)⟩)
    have q5 : decide ((r.steps.length : Int) ≤ 12) = false := decide_eq_false (by omega)
    have q5z : ¬ (r.steps.length : Int) ≤ 12 := by omega
    have q1 : (r.place == 0) = true := by rw [beq_iff_eq]; omega
    have q2 : (r.id == 0) = true := by rw [beq_iff_eq]; omega
    have q3 : (r.lease == 0) = true := by rw [beq_iff_eq]; omega
    have q4 : ((r.ans : Int) == 0) = true := by rw [beq_iff_eq]; omega
    clear hk cp ci cl ca cz
    go_enter Tryz.func30, Tryz.ntmps30
    go_upto_region 1 with fail
    rw [← hW]
    clear hW
    go_wp2_with fail
    go_loopg [5, 6] r.after.length (fun g o t wx => ∃ (i : Nat) (b : Bool), i ≤ r.after.length ∧ g = r.after.length - i ∧ o = .bool b ∧ t = .int .i64 (i : Int) ∧ Hid (b = true ↔ false = true ∧ ∀ j, j < i → (r.after.getD j []).length ≤ 12) ∧ Hid (Below W0.heap.size W0 wx))
    case atStart => exact ⟨0, _, Nat.zero_le _, rfl, rfl, rfl, (show _ ↔ _ from ⟨fun h => ⟨h, fun j hj => absurd hj (by omega)⟩, fun h => h.1⟩), Below.refl _ _⟩
    case round =>
      clear x0 x1 x2 x3 x4 x5 x6 lx
      obtain ⟨i, b, hi, rfl, rfl, rfl, hb, hbl⟩ := hrel
      have x5 : wr.cell? ⟨w.heap.size, 5, none⟩ = some (.slice pS r.steps.length cS) := (BX.out.after hbl.out).cell 5
      have x6 : wr.cell? ⟨w.heap.size, 6, none⟩ = some (.slice pL r.after.length cL) := (BX.out.after hbl.out).cell 6
      have lx := (BX.out.after hbl.out).lt
      by_cases hlt : i < r.after.length
      · obtain ⟨u, hu, hui⟩ := H2.out
        obtain ⟨ba, oa, ca, ea, _, _, la, hca⟩ := (hu.after hbl.out).at_ (by omega)
        injection ea with ea _ ec
        subst ea ec
        obtain ⟨pu, cu, hpu, _, _, _⟩ := (hui i hlt).2.shape
        have a0 : wr.cell? ⟨ba, oa + i, none⟩ = some (.slice pu (r.after.getD i []).length cu) := by have := hca i hlt 0 (by omega); rw [← hpu]; simpa using this
        have il : (i : Int) < (r.after.length : Int) := by omega
        have i0 : (0 : Int) ≤ (i : Int) := by omega
        clear hca hu hui hpu
        cases b with
        | false =>
          go_wp2_with fail
          go_roundg (r.after.length - (i + 1))
          case measure => omega
          case rel =>
            refine ⟨i + 1, false, by omega, rfl, rfl, by go_num, ?_, hbl.out⟩
            show _ ↔ _
            refine ⟨fun h => absurd h (by simp), fun h => hb.out.2 ⟨h.1, fun j hj => h.2 j (by omega)⟩⟩
        | true =>
          by_cases hle : (r.after.getD i []).length ≤ 12
          · have e1 : decide (((r.after.getD i []).length : Int) ≤ 12) = true := decide_eq_true (by omega)
            have e1z : ((r.after.getD i []).length : Int) ≤ 12 := by omega
            have HLE := Lib.hid hle
            obtain ⟨nn, hnn⟩ : ∃ nn, (r.after.getD i []).length = nn := ⟨_, rfl⟩
            rw [hnn] at a0 e1 e1z
            clear hle hnn
            go_wp2_with fail
            go_roundg (r.after.length - (i + 1))
            case measure => omega
            case rel =>
              refine ⟨i + 1, true, by omega, rfl, rfl, by go_num, ?_, hbl.out⟩
              show _ ↔ _
              refine ⟨fun _ => ⟨(hb.out.1 (by simp)).1, fun j hj => ?_⟩, fun _ => rfl⟩
              rcases Nat.lt_or_ge j i with h | h
              · exact (hb.out.1 (by simp)).2 j h
              · obtain rfl : j = i := by omega
                exact HLE.out
          · have e1 : decide (((r.after.getD i []).length : Int) ≤ 12) = false := decide_eq_false (by omega)
            have e1z : ¬ ((r.after.getD i []).length : Int) ≤ 12 := by omega
            have HLE := Lib.hid hle
            obtain ⟨nn, hnn⟩ : ∃ nn, (r.after.getD i []).length = nn := ⟨_, rfl⟩
            rw [hnn] at a0 e1 e1z
            clear hle hnn
            go_wp2_with fail
            go_roundg (r.after.length - (i + 1))
            case measure => omega
            case rel =>
              refine ⟨i + 1, false, by omega, rfl, rfl, by go_num, ?_, hbl.out⟩
              show _ ↔ _
              exact ⟨fun h => absurd h (by simp), fun h => absurd (h.2 i (by omega)) HLE.out⟩
      · obtain rfl : i = r.after.length := by omega
        have HBB : Hid (b = true ↔ Bare r) := by
          show _ ↔ _
          rw [hb.out, HBR.out]
          refine and_congr_right fun _ => ⟨fun h a ha => ?_, fun h j hj => ?_⟩
          · obtain ⟨j, hj, rfl⟩ := List.mem_iff_getElem.1 ha
            have := h j hj
            rw [List.getD_eq_getElem?_getD, List.getElem?_eq_getElem hj] at this
            exact this
          · rw [List.getD_eq_getElem?_getD, List.getElem?_eq_getElem hj]
            exact h _ (List.getElem_mem hj)
        clear hb hlt
        cases b with
        | false =>
          have HP : Hid ((1 ≤ r.kind ∧ r.kind ≤ 5) → false = decide (Bare r)) := fun _ => (decide_eq_false (fun e => by have := HBB.out.2 e; cases this)).symm
          go_wp2_with fail
          go_ret2
          exact ⟨_, _, rfl, HP.out, fun h => absurd (HBB.out.2 h) (by simp), HB.out.trans (hbl.out.mono HB.out.size)⟩
        | true =>
          have HP : Hid ((1 ≤ r.kind ∧ r.kind ≤ 5) → true = decide (Bare r)) := fun _ => (decide_eq_true (HBB.out.1 rfl)).symm
          have HBA := Lib.hid ((bare_1 HK.out).1 (HBB.out.1 rfl))
          go_wp2_with fail
          refine (rPlanned_c wr _ _ r.steps r.after (H1.out.after hbl.out) (H2.out.after hbl.out) HBA.out.2.1 (by rw [HBA.out.2.2.1]; exact HBA.out.2.1) HBA.out.2.2.2).mono ?_
          rintro e w11 ⟨v, rfl, hv, hb11⟩
          have HV := Lib.hid hv.sl
          have HB11 : Hid (Below w.heap.size w w11) := HB.out.trans ((hbl.out.trans (hb11.mono hbl.out.size)).mono HB.out.size)
          clear hv hb11
          go_wp2_with fail
          go_ret2
          exact ⟨_, _, rfl, HP.out, fun _ => by rw [HN.out]; exact HV.out, HB11.out⟩
  obtain ⟨zq, hzq⟩ : ∃ z, ((r.after.length : Int) == (r.steps.length : Int)) = z := ⟨_, rfl⟩
  have HBR : Hid (Bare r ↔ zq = true ∧ ∀ a ∈ r.after, a.length ≤ 12) := (show _ ↔ _ from by rw [← hzq, beq_iff_eq, bare_1 hk]; simp [cp, ci, cl, ca, cz]; intro _; omega)
  have q1 : (r.place == 0) = true := by rw [beq_iff_eq]; omega
  have q2 : (r.id == 0) = true := by rw [beq_iff_eq]; omega
  have q3 : (r.lease == 0) = true := by rw [beq_iff_eq]; omega
  have q4 : ((r.ans : Int) == 0) = true := by rw [beq_iff_eq]; omega
  have q5 : decide ((r.steps.length : Int) ≤ 12) = true := decide_eq_true (by omega)
  have q5z : (r.steps.length : Int) ≤ 12 := by omega
  clear hk cp ci cl ca cz
  go_enter Tryz.func30, Tryz.ntmps30
  go_upto_region 1 with fail
  rw [← hW]
  clear hW
  go_wp2_with fail
  go_loopg [5, 6] r.after.length (fun g o t wx => ∃ (i : Nat) (b : Bool), i ≤ r.after.length ∧ g = r.after.length - i ∧ o = .bool b ∧ t = .int .i64 (i : Int) ∧ Hid (b = true ↔ zq = true ∧ ∀ j, j < i → (r.after.getD j []).length ≤ 12) ∧ Hid (Below W0.heap.size W0 wx))
  case atStart => exact ⟨0, _, Nat.zero_le _, rfl, rfl, rfl, (show _ ↔ _ from ⟨fun h => ⟨h, fun j hj => absurd hj (by omega)⟩, fun h => h.1⟩), Below.refl _ _⟩
  case round =>
    clear x0 x1 x2 x3 x4 x5 x6 lx
    obtain ⟨i, b, hi, rfl, rfl, rfl, hb, hbl⟩ := hrel
    have x5 : wr.cell? ⟨w.heap.size, 5, none⟩ = some (.slice pS r.steps.length cS) := (BX.out.after hbl.out).cell 5
    have x6 : wr.cell? ⟨w.heap.size, 6, none⟩ = some (.slice pL r.after.length cL) := (BX.out.after hbl.out).cell 6
    have lx := (BX.out.after hbl.out).lt
    by_cases hlt : i < r.after.length
    · obtain ⟨u, hu, hui⟩ := H2.out
      obtain ⟨ba, oa, ca, ea, _, _, la, hca⟩ := (hu.after hbl.out).at_ (by omega)
      injection ea with ea _ ec
      subst ea ec
      obtain ⟨pu, cu, hpu, _, _, _⟩ := (hui i hlt).2.shape
      have a0 : wr.cell? ⟨ba, oa + i, none⟩ = some (.slice pu (r.after.getD i []).length cu) := by have := hca i hlt 0 (by omega); rw [← hpu]; simpa using this
      have il : (i : Int) < (r.after.length : Int) := by omega
      have i0 : (0 : Int) ≤ (i : Int) := by omega
      clear hca hu hui hpu
      cases b with
      | false =>
        go_wp2_with fail
        go_roundg (r.after.length - (i + 1))
        case measure => omega
        case rel =>
          refine ⟨i + 1, false, by omega, rfl, rfl, by go_num, ?_, hbl.out⟩
          show _ ↔ _
          refine ⟨fun h => absurd h (by simp), fun h => hb.out.2 ⟨h.1, fun j hj => h.2 j (by omega)⟩⟩
      | true =>
        by_cases hle : (r.after.getD i []).length ≤ 12
        · have e1 : decide (((r.after.getD i []).length : Int) ≤ 12) = true := decide_eq_true (by omega)
          have e1z : ((r.after.getD i []).length : Int) ≤ 12 := by omega
          have HLE := Lib.hid hle
          obtain ⟨nn, hnn⟩ : ∃ nn, (r.after.getD i []).length = nn := ⟨_, rfl⟩
          rw [hnn] at a0 e1 e1z
          clear hle hnn
          go_wp2_with fail
          go_roundg (r.after.length - (i + 1))
          case measure => omega
          case rel =>
            refine ⟨i + 1, true, by omega, rfl, rfl, by go_num, ?_, hbl.out⟩
            show _ ↔ _
            refine ⟨fun _ => ⟨(hb.out.1 (by simp)).1, fun j hj => ?_⟩, fun _ => rfl⟩
            rcases Nat.lt_or_ge j i with h | h
            · exact (hb.out.1 (by simp)).2 j h
            · obtain rfl : j = i := by omega
              exact HLE.out
        · have e1 : decide (((r.after.getD i []).length : Int) ≤ 12) = false := decide_eq_false (by omega)
          have e1z : ¬ ((r.after.getD i []).length : Int) ≤ 12 := by omega
          have HLE := Lib.hid hle
          obtain ⟨nn, hnn⟩ : ∃ nn, (r.after.getD i []).length = nn := ⟨_, rfl⟩
          rw [hnn] at a0 e1 e1z
          clear hle hnn
          go_wp2_with fail
          go_roundg (r.after.length - (i + 1))
          case measure => omega
          case rel =>
            refine ⟨i + 1, false, by omega, rfl, rfl, by go_num, ?_, hbl.out⟩
            show _ ↔ _
            exact ⟨fun h => absurd h (by simp), fun h => absurd (h.2 i (by omega)) HLE.out⟩
    · obtain rfl : i = r.after.length := by omega
      have HBB : Hid (b = true ↔ Bare r) := by
        show _ ↔ _
        rw [hb.out, HBR.out]
        refine and_congr_right fun _ => ⟨fun h a ha => ?_, fun h j hj => ?_⟩
        · obtain ⟨j, hj, rfl⟩ := List.mem_iff_getElem.1 ha
          have := h j hj
          rw [List.getD_eq_getElem?_getD, List.getElem?_eq_getElem hj] at this
          exact this
        · rw [List.getD_eq_getElem?_getD, List.getElem?_eq_getElem hj]
          exact h _ (List.getElem_mem hj)
      clear hb hlt
      cases b with
      | false =>
        have HP : Hid ((1 ≤ r.kind ∧ r.kind ≤ 5) → false = decide (Bare r)) := fun _ => (decide_eq_false (fun e => by have := HBB.out.2 e; cases this)).symm
        go_wp2_with fail
        go_ret2
        exact ⟨_, _, rfl, HP.out, fun h => absurd (HBB.out.2 h) (by simp), HB.out.trans (hbl.out.mono HB.out.size)⟩
      | true =>
        have HP : Hid ((1 ≤ r.kind ∧ r.kind ≤ 5) → true = decide (Bare r)) := fun _ => (decide_eq_true (HBB.out.1 rfl)).symm
        have HBA := Lib.hid ((bare_1 HK.out).1 (HBB.out.1 rfl))
        go_wp2_with fail
        refine (rPlanned_c wr _ _ r.steps r.after (H1.out.after hbl.out) (H2.out.after hbl.out) HBA.out.2.1 (by rw [HBA.out.2.2.1]; exact HBA.out.2.1) HBA.out.2.2.2).mono ?_
        rintro e w11 ⟨v, rfl, hv, hb11⟩
        have HV := Lib.hid hv.sl
        have HB11 : Hid (Below w.heap.size w w11) := HB.out.trans ((hbl.out.trans (hb11.mono hbl.out.size)).mono HB.out.size)
        clear hv hb11
        go_wp2_with fail
        go_ret2
        exact ⟨_, _, rfl, HP.out, fun _ => by rw [HN.out]; exact HV.out, HB11.out⟩
theorem rNumbers_c (w : World) (v : Value) (r : Rec) (h : IsR w v r) : Calls Tryz.prog 30 #[v] w (RetN w r) := by
  by_cases h1 : r.kind = 1
  · by_cases hs : r.steps = []
    · by_cases ha : r.after = []
      · exact rNumbers_1c w v r h h1 hs ha
      · exact rNumbers_1b w v r h h1 hs ha
    · exact rNumbers_1a w v r h h1 hs
  by_cases h2 : r.kind = 2
  · exact rNumbers_2 w v r h h2
  by_cases h3 : r.kind = 3
  · exact rNumbers_3 w v r h h3
  exact rNumbers_x w v r h h1 h2 h3
end Go.Proofs.YtpaoeeamlinaaaaGreatDoor
