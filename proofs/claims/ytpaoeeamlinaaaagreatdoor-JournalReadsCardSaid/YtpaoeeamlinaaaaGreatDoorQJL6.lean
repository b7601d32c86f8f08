/- Journal, walks of the law: some. -/
import Derived.Test.YtpaoeeamlinaaaaGreatDoorK12
import Derived.Test.YtpaoeeamlinaaaaGreatDoorQJV9
import Derived.Test.YtpaoeeamlinaaaaGreatDoorQJWK
set_option linter.unusedVariables false
namespace Go.Proofs.YtpaoeeamlinaaaaGreatDoor
open Go.RowKit

/-- What some returns: records that can be written, 20 at most. -/
def RetSo (w : World) (e : Ending) (w' : World) : Prop := ∃ u out, e = .returned u ∧ SlR w' u out ∧ out.length ≤ 20 ∧ (∀ r ∈ out, CanW r) ∧ Below w.heap.size w w'
theorem OwnR.later {w0 w W : World} {base : Nat} {v : Value} {rs : List Rec} (h : OwnR (IsR w0) w base v rs) (hb : Below w.heap.size w W) : OwnR (IsR w0) W base v rs :=
  h.fx (S := fun _ => False) (Fx.of_below hb) (fun _ e => e.elim) (fun _ _ k => k)
set_option maxRecDepth 100000 in
set_option maxHeartbeats 2000000 in
theorem some_c (w : World) (v : Value) (rs : List Rec) (h : SlR w v rs) : Calls Tryz.prog 22 #[v, .int .i64 20] w (RetSo w) := by
  obtain ⟨p, c, rfl, _, _⟩ := h.shape
  have H := Lib.hid h
  clear h
  go_enter Tryz.func22, Tryz.ntmps22
  go_wp2_with fail
  go_loopg [5, 6] rs.length (fun g o t wx => ∃ (i : Nat) (out : List Rec), i ≤ rs.length ∧ g = rs.length - i ∧ t = .int .i64 (i : Int) ∧ out.length ≤ 20 ∧ Hid (OwnR (IsR w) wx w.heap.size o out) ∧ Hid (∀ r ∈ out, CanW r) ∧ Hid (Below w.heap.size w wx))
  case atStart => exact ⟨0, [], Nat.zero_le _, rfl, rfl, by simp, OwnR.nil _ _ _, (fun r hr => by simp at hr), Below.refl _ _⟩
  case round =>
    obtain ⟨i, out, hi, rfl, rfl, ho20, hown, hcan, hbl⟩ := hrel
    obtain ⟨po, co, hso, hco⟩ := hown.out.shape
    subst hso
    by_cases hlt : i < rs.length
    · have il : (i : Int) < (rs.length : Int) := by omega
      have i0 : (0 : Int) ≤ (i : Int) := by omega
      by_cases h20 : out.length < 20
      · have o20 : (out.length : Int) < 20 := by omega
        obtain ⟨r, hr⟩ : ∃ r, rs.getD i Rec.none = r := ⟨_, rfl⟩
        obtain ⟨ba, oa, ca, pS, cS, pL, cL, ea, lba0, ⟨z0, z1, z2, z3, z4, z5, z6⟩, hir⟩ := H.out.rec_at hlt hr
        injection ea with ea _ ec
        subst ea ec
        have lba := Nat.lt_of_lt_of_le lba0 hbl.out.size
        have y0 := keep_cell hbl.out z0
        have y1 := keep_cell hbl.out z1
        have y2 := keep_cell hbl.out z2
        have y3 := keep_cell hbl.out z3
        have y4 := keep_cell hbl.out z4
        have y5 := keep_cell hbl.out z5
        have y6 := keep_cell hbl.out z6
        have HIR := Lib.hid hir
        have HZ : Hid (w.cell? ⟨ba, oa + i * 7, none⟩ = some (.int .u8 (r.kind : Int)) ∧ w.cell? ⟨ba, oa + i * 7 + 1, none⟩ = some (.int .i64 r.place) ∧ w.cell? ⟨ba, oa + i * 7 + 2, none⟩ = some (.int .i64 r.id) ∧ w.cell? ⟨ba, oa + i * 7 + 3, none⟩ = some (.int .i64 r.lease) ∧ w.cell? ⟨ba, oa + i * 7 + 4, none⟩ = some (.int .u8 (r.ans : Int)) ∧ w.cell? ⟨ba, oa + i * 7 + 5, none⟩ = some (.slice pS r.steps.length cS) ∧ w.cell? ⟨ba, oa + i * 7 + 6, none⟩ = some (.slice pL r.after.length cL)) := ⟨z0, z1, z2, z3, z4, z5, z6⟩
        have HLB := Lib.hid lba0
        clear hir hr z0 z1 z2 z3 z4 z5 z6 lba0
        go_wp2_with fail
        refine (rLine_c wr _ r (HIR.out.after hbl.out)).mono ?_
        unfold RetL
        rintro e w1 ⟨rfl, hb1⟩
        have HB1 : Hid (Below w.heap.size w w1) := hbl.out.trans (hb1.mono hbl.out.size)
        have HO1 := Lib.hid (hown.out.later hb1)
        clear hb1 y0 y1 y2 y3 y4 y5 y6 lba
        obtain ⟨sx, er, hl⟩ : ∃ sx er, lineF r = (sx, er) := ⟨_, _, rfl⟩
        have HER : Hid (er = 0 → CanW r) := fun h0 => by
          refine Classical.byContradiction fun hc => ?_
          rw [lineF_no hc] at hl
          injection hl with _ hl
          rw [h0] at hl
          cases hl
        rw [hl]
        clear hl
        dsimp only
        have lba := Nat.lt_of_lt_of_le HLB.out HB1.out.size
        have y0 := keep_cell HB1.out HZ.out.1
        have y1 := keep_cell HB1.out HZ.out.2.1
        have y2 := keep_cell HB1.out HZ.out.2.2.1
        have y3 := keep_cell HB1.out HZ.out.2.2.2.1
        have y4 := keep_cell HB1.out HZ.out.2.2.2.2.1
        have y5 := keep_cell HB1.out HZ.out.2.2.2.2.2.1
        have y6 := keep_cell HB1.out HZ.out.2.2.2.2.2.2
        go_wp2_with fail
        refine (light_c w1 _ r (HIR.out.after HB1.out)).mono ?_
        rintro e w2 ⟨b, rfl, hb2⟩
        have HB2 : Hid (Below w.heap.size w w2) := HB1.out.trans (hb2.mono HB1.out.size)
        have HO2 := Lib.hid (HO1.out.later hb2)
        clear hb2 y0 y1 y2 y3 y4 y5 y6 lba
        cases b with
        | false =>
          go_wp2_with fail
          go_roundg (rs.length - (i + 1))
          case measure => omega
          case rel => exact ⟨i + 1, out, by omega, rfl, by go_num, ho20, HO2.out, hcan.out, HB2.out⟩
        | true =>
          by_cases h0 : er = 0
          rotate_left
          · have e0 : (er == 0) = false := by rw [beq_eq_false_iff_ne]; exact h0
            go_wp2_with fail
            go_roundg (rs.length - (i + 1))
            case measure => omega
            case rel => exact ⟨i + 1, out, by omega, rfl, by go_num, ho20, HO2.out, hcan.out, HB2.out⟩
          subst h0
          have HCR := Lib.hid (HER.out rfl)
          have lba := Nat.lt_of_lt_of_le HLB.out HB2.out.size
          have y0 := keep_cell HB2.out HZ.out.1
          have y1 := keep_cell HB2.out HZ.out.2.1
          have y2 := keep_cell HB2.out HZ.out.2.2.1
          have y3 := keep_cell HB2.out HZ.out.2.2.2.1
          have y4 := keep_cell HB2.out HZ.out.2.2.2.2.1
          have y5 := keep_cell HB2.out HZ.out.2.2.2.2.2.1
          have y6 := keep_cell HB2.out HZ.out.2.2.2.2.2.2
          obtain ⟨rows, hr0, hr1, hr2⟩ := HO2.out
          have HR0 := Lib.hid hr0
          have HR1 := Lib.hid hr1
          have HR2 := Lib.hid hr2
          have HRL : Hid (rows.length ≤ 1000000) := by show _ ≤ _; omega
          have hsz3 := HB2.out.size
          clear hr0 hr1 hr2
          go_wp2_with (at_builtin; refine wpList_appC rfl _ _ 38 rfl w.heap.size 29 7 88 _ Tryz.underlying38 infoRec rfl (by decide) (by decide) _ rows [.int .u8 (r.kind : Int), .int .i64 r.place, .int .i64 r.id, .int .i64 r.lease, .int .u8 (r.ans : Int), .slice pS r.steps.length cS, .slice pL r.after.length cL] rfl (HR1.out.after (held_alloc (Below.refl _ _))) rfl (by simp [Value.oneCell']) ⟨w2.heap.size, 0, none⟩ 1 rfl cells_new HRL.out ?d4 ?_)
          case d4 => simp; omega
          intro v6 w6 hown6 hf6
          have HOWN6 := Lib.hid hown6
          have HF6 := Lib.hid hf6
          clear hown6 hf6 y0 y1 y2 y3 y4 y5 y6 lba
          go_wp2_with fail
          have HW6 : Hid (Fx (fun k => some k = (Value.slice po out.length co).ownBlock) w2 w6) := ((Fx.refl _ w2).alloc _).trans HF6.out
          have HOB : Hid (∀ k, some k = (Value.slice po out.length co).ownBlock → w.heap.size ≤ k ∧ TagB w2 k 29) := HR1.out.lt
          have HO6 : Hid (OwnR (IsR w) w6 w.heap.size v6 (out ++ [r])) := OwnR.push HR0.out HOWN6.out HR2.out HIR.out
          have HB6 : Hid (Below w.heap.size w w6) := HB2.out.trans (HW6.out.toBelow hsz3 (fun k e => (HOB.out k e).1))
          go_roundg (rs.length - (i + 1))
          case measure => omega
          case rel =>
            refine ⟨i + 1, out ++ [r], by omega, rfl, by go_num, by simp; omega, HO6.out, fun x hx => ?_, HB6.out⟩
            rcases List.mem_append.1 hx with hx | hx
            · exact hcan.out x hx
            · rw [List.mem_singleton.1 hx]; exact HCR.out
      · have o20 : ¬ (out.length : Int) < 20 := by omega
        go_wp2_with fail
        go_ret
        exact ⟨_, out, rfl, hown.out.slR (fun _ _ k => k.after hbl.out), ho20, hcan.out, hbl.out⟩
    · have il : ¬ (i : Int) < (rs.length : Int) := by omega
      go_wp2_with fail
      go_ret
      exact ⟨_, out, rfl, hown.out.slR (fun _ _ k => k.after hbl.out), ho20, hcan.out, hbl.out⟩
end Go.Proofs.YtpaoeeamlinaaaaGreatDoor
