/- Journal, walks of the reference: planned. -/
import Derived.Test.YtpaoeeamlinaaaaGreatDoorQJV1
set_option linter.unusedVariables false
namespace Go.Proofs.YtpaoeeamlinaaaaGreatDoor
open Go.RowKit

set_option maxRecDepth 100000 in
set_option maxHeartbeats 2000000 in
theorem rPlanned_c (w : World) (vs va : Value) (ss : List Stp) (ls : List (List Int)) (h : SlS w vs ss) (k : SlL w va ls) (hs : ss.length ≤ 12) (ha : ls.length ≤ 12) (hls : ∀ a ∈ ls, a.length ≤ 12) :
    Calls Tryz.prog 45 #[.agg #[vs, va]] w fun e w' => ∃ v, e = .returned v ∧ OwnI w' w.heap.size v (planned ss ls) ∧ Below w.heap.size w w' := by
  obtain ⟨p, c, rfl, h1, h2, _⟩ := h.2.shape
  obtain ⟨u, hu, hu'⟩ := k
  obtain ⟨q, d, rfl, k1, k2, _⟩ := hu.shape
  obtain ⟨W0, hW⟩ : ∃ W0, W0 = w.alloc (.cells #[.slice p ss.length c, .slice q ls.length d] 27) := ⟨_, rfl⟩
  have hb0 : Below w.heap.size w W0 := by rw [hW]; exact (Below.refl _ w).alloc (Nat.le_refl _) _
  have hbx : Box W0 w.heap.size #[.slice p ss.length c, .slice q ls.length d] 27 := by rw [hW]; exact Box.new _ _ _
  have hz0 : W0.heap.size = w.heap.size + 1 := by rw [hW]; simp
  have H := Lib.hid (h.after hb0)
  have KU := Lib.hid (hu.after hb0)
  have KI : Hid (∀ i, i < ls.length → SlI W0 (u i) (ls.getD i [])) := fun i hi => (hu' i hi).after hb0
  have HLS := Lib.hid hls
  have HB := Lib.hid hb0
  have BX := Lib.hid hbx
  have HZ0 := Lib.hid hz0
  obtain ⟨B0, hB0⟩ : ∃ B0, W0.heap.size = B0 := ⟨_, rfl⟩
  have HB0' := Lib.hid hB0
  have x0 : W0.cell? ⟨w.heap.size, 0, none⟩ = some (.slice p ss.length c) := hbx.cell 0
  have x1 : W0.cell? ⟨w.heap.size, 1, none⟩ = some (.slice q ls.length d) := hbx.cell 1
  have lx := hbx.lt
  clear h hu hu' hb0 hbx hls hz0 hB0
  go_enter Tryz.func45, Tryz.ntmps45
  go_upto_region 1 with fail
  rw [← hW]
  clear hW
  go_wp2_with fail
  go_loopg [3, 4] ss.length (fun g o t wx => ∃ (i : Nat) (r : List Int), i ≤ ss.length ∧ g = ss.length - i ∧ t = .int .i64 (i : Int) ∧ r.length ≤ 1000 ∧ Hid (r = (ss.length : Int) :: (ss.take i).flatMap stepL) ∧ Hid (OwnI wx B0 o r) ∧ Hid (Below W0.heap.size W0 wx))
  case atStart =>
    refine ⟨0, [(ss.length : Int)], Nat.zero_le _, rfl, rfl, by simp, rfl, ?_, ?_⟩
    · have h := OwnI.one W0 (Nat.le_refl _) (z := (ss.length : Int)) (by constructor <;> omega)
      show OwnI _ _ _ _
      rw [← HB0'.out]
      exact h
    · exact (Below.refl _ _).alloc (Nat.le_refl _) _
  case round =>
    obtain ⟨i, r, hi, rfl, rfl, hrl, hr, hown, hbl⟩ := hrel
    have hsz := hbl.out.size
    have x0r : wr.cell? ⟨w.heap.size, 0, none⟩ = some (.slice p ss.length c) := (BX.out.after hbl.out).cell 0
    have lxr := (BX.out.after hbl.out).lt
    by_cases hlt : i < ss.length
    · obtain ⟨ba, oa, ca, ea, _, _, la, hca⟩ := (H.out.2.after hbl.out).at_ (by omega)
      injection ea with ea _ ec
      subst ea ec
      have y0 : wr.cell? ⟨ba, oa + i * 4, none⟩ = some (.int .u8 ((ss.getD i stp0).kind : Int)) := hca i hlt 0 (by omega)
      have y1 : wr.cell? ⟨ba, oa + i * 4 + 1, none⟩ = some (.int .i64 (ss.getD i stp0).host) := hca i hlt 1 (by omega)
      have y2 : wr.cell? ⟨ba, oa + i * 4 + 2, none⟩ = some (.int .i64 (ss.getD i stp0).srv) := hca i hlt 2 (by omega)
      have y3 : wr.cell? ⟨ba, oa + i * 4 + 3, none⟩ = some (.int .i64 (ss.getD i stp0).ver) := hca i hlt 3 (by omega)
      clear hca
      have HSI : Hid (StpOk (ss.getD i stp0)) := by
        rw [List.getD_eq_getElem?_getD, List.getElem?_eq_getElem hlt]; exact H.out.1 _ (List.getElem_mem hlt)
      have HST := Lib.hid (flat_steps ss i hlt)
      have HLN := Lib.hid (flat_steps_len (ss.take (i + 1)))
      have il : (i : Int) < (ss.length : Int) := by omega
      have i0 : (0 : Int) ≤ (i : Int) := by omega
      obtain ⟨s, hs'⟩ : ∃ s, ss.getD i stp0 = s := ⟨_, rfl⟩
      rw [hs'] at y0 y1 y2 y3 HSI HST
      have hkk := HSI.out.1
      clear hs'
      obtain ⟨W1, hW1⟩ : ∃ W1, W1 = wr.alloc (.cells #[.int .u8 (s.kind : Int), .int .i64 s.host, .int .i64 s.srv, .int .i64 s.ver] 53) := ⟨_, rfl⟩
      have hb1 : Below wr.heap.size wr W1 := by rw [hW1]; exact held_alloc (Below.refl _ _)
      have hx1 : Box W1 wr.heap.size #[.int .u8 (s.kind : Int), .int .i64 s.host, .int .i64 s.srv, .int .i64 s.ver] 53 := by rw [hW1]; exact Box.new _ _ _
      have HBL1 : Hid (Below W0.heap.size W0 W1) := hbl.out.trans (hb1.mono hsz)
      have HO1 := Lib.hid (hown.out.after hb1)
      have HSZ1 := Lib.hid HBL1.out.size
      go_upto_region 6 with fail
      rw [← hW1]
      clear hW1 hb1 y0 y1 y2 y3 hown
      have z0 : W1.cell? ⟨wr.heap.size, 0, none⟩ = some (.int .u8 (s.kind : Int)) := hx1.cell 0
      have z1 : W1.cell? ⟨wr.heap.size, 1, none⟩ = some (.int .i64 s.host) := hx1.cell 1
      have z2 : W1.cell? ⟨wr.heap.size, 2, none⟩ = some (.int .i64 s.srv) := hx1.cell 2
      have z3 : W1.cell? ⟨wr.heap.size, 3, none⟩ = some (.int .i64 s.ver) := hx1.cell 3
      have zl := hx1.lt
      clear hx1
      go_wp2_with (at_builtin; refine wpList_appI rfl _ _ rfl B0 _ _ r [(s.kind : Int), s.host, s.srv, s.ver] rfl (HO1.out.alloc _) rfl ?d2 ?d3 ?d4 ?_)
      case d2 =>
        obtain ⟨hk, hh, hv, hx⟩ := HSI.out
        exact SlI.four W1 (a := (s.kind : Int)) (by constructor <;> omega) hh hv hx
      case d3 => omega
      case d4 => have h1 := HSZ1.out; have h2 := HB0'.out; simp; omega
      intro v1 w1 hown1 hb1
      have HOWN1 := Lib.hid hown1
      have HBL2 : Hid (Below W0.heap.size W0 w1) := by
        have h1 : Below W0.heap.size W0 (W1.alloc (.cells #[.int .i64 (s.kind : Int), .int .i64 s.host, .int .i64 s.srv, .int .i64 s.ver] 3)) := HBL1.out.alloc HSZ1.out _
        have h2 := HB0'.out
        rw [h2] at h1 ⊢
        exact h1.trans hb1
      clear hown1 hb1 z0 z1 z2 z3 zl
      go_wp2_with fail
      go_roundg (ss.length - (i + 1))
      case measure => omega
      case rel =>
        have he : r ++ [(s.kind : Int), s.host, s.srv, s.ver] = (ss.length : Int) :: (ss.take (i + 1)).flatMap stepL := by rw [HST.out, hr.out]; rfl
        refine ⟨i + 1, _, by omega, rfl, by go_num, ?_, he, HOWN1.out, HBL2.out⟩
        rw [he, List.length_cons, HLN.out, List.length_take]; omega
    · obtain rfl : i = ss.length := by omega
      have HR : Hid (r = (ss.length : Int) :: ss.flatMap stepL) := by have := hr.out; rw [List.take_length] at this; exact this
      have HRL : Hid (r.length = 1 + 4 * ss.length) := by rw [show r = _ from HR.out, List.length_cons, flat_steps_len]; show _ = _; omega
      clear hr x0 x1
      go_wp2_with fail
      go_loopg [3, 6] ls.length (fun g o t wx => ∃ (i : Nat) (z : List Int), i ≤ ls.length ∧ g = ls.length - i ∧ t = .int .i64 (i : Int) ∧ z.length ≤ 1000 ∧ Hid (z = r ++ (ls.take i).flatMap lenL) ∧ Hid (OwnI wx B0 o z) ∧ Hid (Below W0.heap.size W0 wx))
      case atStart => exact ⟨0, r, Nat.zero_le _, rfl, rfl, hrl, (by show _ = _; simp), hown.out, hbl.out⟩
      case round =>
        clear hown hbl x0r lxr hsz
        obtain ⟨i, z, hi, rfl, rfl, hzl, hz, hown, hbl⟩ := hrel
        have hsz := hbl.out.size
        have x1r : wr.cell? ⟨w.heap.size, 1, none⟩ = some (.slice q ls.length d) := (BX.out.after hbl.out).cell 1
        have lxr := (BX.out.after hbl.out).lt
        by_cases hlt : i < ls.length
        · obtain ⟨ba, oa, ca, ea, _, _, la, hca⟩ := (KU.out.after hbl.out).at_ (by omega)
          injection ea with ea _ ec
          subst ea ec
          have y0 : wr.cell? ⟨ba, oa + i, none⟩ = some (u i) := by have := hca i hlt 0 (by omega); simpa using this
          clear hca
          have HI := Lib.hid (KI.out i hlt)
          have HUC := Lib.hid (KU.out)
          obtain ⟨bz, oz, cz, ez, _, _, _, hcz⟩ := KU.out.at_ (by omega)
          injection ez with ez _ ez2
          injection ez with ez
          injection ez with ez3 ez4
          subst ez3 ez4
          have hy00 : W0.cell? ⟨ba, oa + i, none⟩ = some (u i) := by have := hcz i hlt 0 (by omega); simpa using this
          clear hcz ez2
          have HST := Lib.hid (flat_lists ls i hlt)
          have HLN := Lib.hid (flat_lists_len (ls.take (i + 1)) (fun a h => HLS.out a (List.mem_of_mem_take h)))
          have hal : (ls.getD i []).length ≤ 12 := by
            rw [List.getD_eq_getElem?_getD, List.getElem?_eq_getElem hlt]; exact HLS.out _ (List.getElem_mem hlt)
          have il : (i : Int) < (ls.length : Int) := by omega
          have i0 : (0 : Int) ≤ (i : Int) := by omega
          obtain ⟨a, hs'⟩ : ∃ a, ls.getD i [] = a := ⟨_, rfl⟩
          rw [hs'] at HI HST hal
          clear hs'
          obtain ⟨pa, cc, hue, hac, _, _⟩ := HI.out.2.shape
          rw [hue] at y0 HI hy00
          clear hue
          have HY00 : Hid (W0.cell? ⟨ba, oa + i, none⟩ = some (.slice pa a.length cc)) := hy00
          go_wp2_with (at_builtin; refine wpList_appI rfl _ _ rfl B0 _ _ z [(a.length : Int)] rfl (hown.out.alloc _) rfl (SlI.one wr (by constructor <;> omega)) ?d3 ?d4 ?_)
          case d3 => omega
          case d4 => have h2 := HB0'.out; simp; omega
          intro v1 w1 hown1 hb1
          have HOWN1 := Lib.hid hown1
          have HBL1 : Hid (Below W0.heap.size W0 w1) := by
            have h1 : Below W0.heap.size W0 (wr.alloc (.cells #[.int .i64 (a.length : Int)] 3)) := hbl.out.alloc hsz _
            have h2 := HB0'.out
            rw [h2] at h1 ⊢
            exact h1.trans hb1
          have hsz1 := HBL1.out.size
          have HI1 := Lib.hid (HI.out.after HBL1.out)
          have x1s : w1.cell? ⟨w.heap.size, 1, none⟩ = some (.slice (some ⟨ba, oa, none⟩) ls.length d) := (BX.out.after HBL1.out).cell 1
          have lxs := (BX.out.after HBL1.out).lt
          obtain ⟨bb, ob, cb, eb, _, _, lb, hcb⟩ := (HUC.out.after HBL1.out).at_ (by omega)
          injection eb with eb _ ed
          injection eb with eb
          injection eb with eb1 eb2
          subst eb1 eb2
          have y0s : w1.cell? ⟨ba, oa + i, none⟩ = some (.slice pa a.length cc) := keep_cell HBL1.out HY00.out
          clear hown1 hb1 y0 x1r lxr hcb hown ed hy00
          go_wp2_with (at_builtin; refine wpList_appI rfl _ _ rfl B0 _ _ (z ++ [(a.length : Int)]) a rfl HOWN1.out rfl HI1.out ?d3 ?d4 ?_)
          case d3 => omega
          case d4 => have h2 := HB0'.out; omega
          intro v2 w2 hown2 hb2
          have HOWN2 := Lib.hid hown2
          have HBL2 : Hid (Below W0.heap.size W0 w2) := by
            have h2 := HB0'.out
            have h1 := HBL1.out
            rw [h2] at h1 ⊢
            exact h1.trans hb2
          clear hown2 hb2 y0s x1s lxs
          go_wp2_with fail
          go_roundg (ls.length - (i + 1))
          case measure => omega
          case rel =>
            have he : z ++ (a.length : Int) :: a = r ++ (ls.take (i + 1)).flatMap lenL := by rw [HST.out, hz.out]; simp [lenL]
            refine ⟨i + 1, _, by omega, rfl, by go_num, ?_, he, HOWN2.out, HBL2.out⟩
            have := HLN.out
            rw [List.length_take] at this
            rw [he, List.length_append, HRL.out]; omega
        · obtain rfl : i = ls.length := by omega
          have HZ : Hid (z = planned ss ls) := by have := hz.out; rw [List.take_length, HR.out] at this; rw [this]; rfl
          have HOWN := Lib.hid (hown.out.le (b := w.heap.size) (by have h1 := HZ0.out; have h2 := HB0'.out; omega))
          have HBE : Hid (Below w.heap.size w wr) := HB.out.trans (hbl.out.mono (by have h1 := HZ0.out; omega))
          clear hz hown
          go_wp2_with fail
          go_ret
          refine ⟨_, rfl, ?_, HBE.out⟩
          rw [← show z = _ from HZ.out]
          exact HOWN.out
end Go.Proofs.YtpaoeeamlinaaaaGreatDoor
