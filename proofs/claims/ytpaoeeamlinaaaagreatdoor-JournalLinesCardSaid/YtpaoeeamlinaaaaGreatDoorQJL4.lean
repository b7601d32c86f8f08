/- Journal: the walk of JournalLines. -/
import Derived.Test.YtpaoeeamlinaaaaGreatDoorQJL2
import Derived.Test.YtpaoeeamlinaaaaGreatDoorQJV4
import Derived.Test.YtpaoeeamlinaaaaGreatDoorQJV8
import Derived.Test.YtpaoeeamlinaaaaGreatDoorQJWK
set_option linter.unusedVariables false
namespace Go.Proofs.YtpaoeeamlinaaaaGreatDoor
open Go.RowKit

set_option maxRecDepth 100000 in
set_option maxHeartbeats 2000000 in
theorem journalLines_w (w : World) (v u : Value) (a b : Rec) (text : List UInt8) (h : IsR w v a) (k : IsR w u b) (ht : text.length ≤ 9223372036854775807) (he : Env w) : Calls Tryz.prog 3 #[v, u, .string (bs text)] w fun e w' => e = .returned (.bool true) ∧ Below w.heap.size w w' := by
  have HE := Lib.hid he
  have h0 := h
  have k0 := k
  obtain ⟨_, vs, va', rfl, h1, h2⟩ := h
  obtain ⟨pA, cA, rfl, _, _, _⟩ := h1.2.shape
  obtain ⟨pB, cB, rfl⟩ : ∃ pL cL, va' = .slice pL a.after.length cL := by
    obtain ⟨_, k2, _⟩ := h2
    obtain ⟨a, b, e', _⟩ := k2.shape
    exact ⟨a, b, e'⟩
  clear h1 h2
  obtain ⟨_, vs, va', rfl, h1, h2⟩ := k
  obtain ⟨pC, cC, rfl, _, _, _⟩ := h1.2.shape
  obtain ⟨pD, cD, rfl⟩ : ∃ pL cL, va' = .slice pL b.after.length cL := by
    obtain ⟨_, k2, _⟩ := h2
    obtain ⟨a, b, e', _⟩ := k2.shape
    exact ⟨a, b, e'⟩
  clear h1 h2
  obtain ⟨W0, hW, bx, by', hsz, hb0⟩ := start2 w #[.int .u8 (a.kind : Int), .int .i64 a.place, .int .i64 a.id, .int .i64 a.lease, .int .u8 (a.ans : Int), .slice pA a.steps.length cA, .slice pB a.after.length cB] #[.int .u8 (b.kind : Int), .int .i64 b.place, .int .i64 b.id, .int .i64 b.lease, .int .u8 (b.ans : Int), .slice pC b.steps.length cC, .slice pD b.after.length cD] 29
  have HA0 := Lib.hid (h0.after hb0)
  have HB0 := Lib.hid (k0.after hb0)
  have HB := Lib.hid hb0
  have BX := Lib.hid bx
  have BY := Lib.hid by'
  obtain ⟨m, hm⟩ : ∃ m, min text.length 1000 = m := ⟨_, rfl⟩
  have hm1 : min (text.length : Int) 1000 = (m : Int) := by omega
  have hm2 : m ≤ text.length := by omega
  have hm3 : m ≤ 1000 := by omega
  obtain ⟨x, hx⟩ : ∃ x, text.take m = x := ⟨_, rfl⟩
  have hx1 : (bs text).extract 0 m = bs x := by rw [extract_front, hx]
  have hxl : x.length ≤ 1000 := by rw [← hx, List.length_take]; omega
  have HXL := Lib.hid hxl
  have htz := bs_size text
  obtain ⟨nS, hn⟩ : ∃ nS, sumT x = nS := ⟨_, rfl⟩
  have HSU : Hid (∀ wx, Calls Tryz.prog 13 #[.string (bs x)] wx fun e w' => e = .returned (.int .i64 (nS : Int)) ∧ Below wx.heap.size wx w') := by
    intro wx; rw [← hn]; exact Sum_c wx x (by omega)
  have HRS : Hid (∀ wx, Calls Tryz.prog 14 #[.string (bs x)] wx fun e w' => e = .returned (.int .i64 (nS : Int)) ∧ Below wx.heap.size wx w') := by
    intro wx; rw [← hn]; exact rSum_c wx x (by omega)
  obtain ⟨sx, ex, hl⟩ : ∃ sx ex, lineF a = (sx, ex) := ⟨_, _, rfl⟩
  have HLI := Lib.hid hl
  obtain ⟨pe, hpe⟩ : ∃ pe, decide (a = b) = pe := ⟨_, rfl⟩
  have HPE := Lib.hid hpe
  clear he h0 k0 hb0 bx by' hsz hm hx hxl hn hl hpe
  have hbr := Below.refl W0.heap.size W0
  have x0 : W0.cell? ⟨w.heap.size, 0, none⟩ = some (.int .u8 (a.kind : Int)) := (BX.out.after hbr).cell 0
  have x1 : W0.cell? ⟨w.heap.size, 1, none⟩ = some (.int .i64 a.place) := (BX.out.after hbr).cell 1
  have x2 : W0.cell? ⟨w.heap.size, 2, none⟩ = some (.int .i64 a.id) := (BX.out.after hbr).cell 2
  have x3 : W0.cell? ⟨w.heap.size, 3, none⟩ = some (.int .i64 a.lease) := (BX.out.after hbr).cell 3
  have x4 : W0.cell? ⟨w.heap.size, 4, none⟩ = some (.int .u8 (a.ans : Int)) := (BX.out.after hbr).cell 4
  have x5 : W0.cell? ⟨w.heap.size, 5, none⟩ = some (.slice pA a.steps.length cA) := (BX.out.after hbr).cell 5
  have x6 : W0.cell? ⟨w.heap.size, 6, none⟩ = some (.slice pB a.after.length cB) := (BX.out.after hbr).cell 6
  have lx := (BX.out.after hbr).lt
  have y0 : W0.cell? ⟨w.heap.size + 1, 0, none⟩ = some (.int .u8 (b.kind : Int)) := (BY.out.after hbr).cell 0
  have y1 : W0.cell? ⟨w.heap.size + 1, 1, none⟩ = some (.int .i64 b.place) := (BY.out.after hbr).cell 1
  have y2 : W0.cell? ⟨w.heap.size + 1, 2, none⟩ = some (.int .i64 b.id) := (BY.out.after hbr).cell 2
  have y3 : W0.cell? ⟨w.heap.size + 1, 3, none⟩ = some (.int .i64 b.lease) := (BY.out.after hbr).cell 3
  have y4 : W0.cell? ⟨w.heap.size + 1, 4, none⟩ = some (.int .u8 (b.ans : Int)) := (BY.out.after hbr).cell 4
  have y5 : W0.cell? ⟨w.heap.size + 1, 5, none⟩ = some (.slice pC b.steps.length cC) := (BY.out.after hbr).cell 5
  have y6 : W0.cell? ⟨w.heap.size + 1, 6, none⟩ = some (.slice pD b.after.length cD) := (BY.out.after hbr).cell 6
  have ly := (BY.out.after hbr).lt
  clear hbr
  show Calls _ _ #[.agg #[.int .u8 (a.kind : Int), .int .i64 a.place, .int .i64 a.id, .int .i64 a.lease, .int .u8 (a.ans : Int), .slice pA a.steps.length cA, .slice pB a.after.length cB], .agg #[.int .u8 (b.kind : Int), .int .i64 b.place, .int .i64 b.id, .int .i64 b.lease, .int .u8 (b.ans : Int), .slice pC b.steps.length cC, .slice pD b.after.length cD], .string (bs text)] w _
  go_enter Tryz.func3, Tryz.ntmps3
  go_upto_region 1 with fail
  rw [← hW]
  clear hW
  go_wp2_with fail
  refine (light_c W0 _ a HA0.out).mono ?_
  rintro e w1 ⟨b1, rfl, hb1⟩
  have HBL1 : Hid (Below W0.heap.size W0 w1) := hb1
  clear hb1
  clear x0 x1 x2 x3 x4 x5 x6 lx
  clear y0 y1 y2 y3 y4 y5 y6 ly
  cases b1 with
  | false =>
    go_wp2_with fail
    refine (lives_c w1 (HE.out.after (HB.out.trans (HBL1.out.mono HB.out.size)))).mono ?_
    rintro e wz ⟨rfl, hbz⟩
    have HBZ : Hid (Below w.heap.size w wz) := (HB.out.trans (HBL1.out.mono HB.out.size)).trans (hbz.mono (HB.out.trans (HBL1.out.mono HB.out.size)).size)
    clear hbz
    go_wp2_with fail
    go_ret
    exact ⟨rfl, HBZ.out⟩
  | true =>
    have x0 : w1.cell? ⟨w.heap.size, 0, none⟩ = some (.int .u8 (a.kind : Int)) := (BX.out.after HBL1.out).cell 0
    have x1 : w1.cell? ⟨w.heap.size, 1, none⟩ = some (.int .i64 a.place) := (BX.out.after HBL1.out).cell 1
    have x2 : w1.cell? ⟨w.heap.size, 2, none⟩ = some (.int .i64 a.id) := (BX.out.after HBL1.out).cell 2
    have x3 : w1.cell? ⟨w.heap.size, 3, none⟩ = some (.int .i64 a.lease) := (BX.out.after HBL1.out).cell 3
    have x4 : w1.cell? ⟨w.heap.size, 4, none⟩ = some (.int .u8 (a.ans : Int)) := (BX.out.after HBL1.out).cell 4
    have x5 : w1.cell? ⟨w.heap.size, 5, none⟩ = some (.slice pA a.steps.length cA) := (BX.out.after HBL1.out).cell 5
    have x6 : w1.cell? ⟨w.heap.size, 6, none⟩ = some (.slice pB a.after.length cB) := (BX.out.after HBL1.out).cell 6
    have lx := (BX.out.after HBL1.out).lt
    have y0 : w1.cell? ⟨w.heap.size + 1, 0, none⟩ = some (.int .u8 (b.kind : Int)) := (BY.out.after HBL1.out).cell 0
    have y1 : w1.cell? ⟨w.heap.size + 1, 1, none⟩ = some (.int .i64 b.place) := (BY.out.after HBL1.out).cell 1
    have y2 : w1.cell? ⟨w.heap.size + 1, 2, none⟩ = some (.int .i64 b.id) := (BY.out.after HBL1.out).cell 2
    have y3 : w1.cell? ⟨w.heap.size + 1, 3, none⟩ = some (.int .i64 b.lease) := (BY.out.after HBL1.out).cell 3
    have y4 : w1.cell? ⟨w.heap.size + 1, 4, none⟩ = some (.int .u8 (b.ans : Int)) := (BY.out.after HBL1.out).cell 4
    have y5 : w1.cell? ⟨w.heap.size + 1, 5, none⟩ = some (.slice pC b.steps.length cC) := (BY.out.after HBL1.out).cell 5
    have y6 : w1.cell? ⟨w.heap.size + 1, 6, none⟩ = some (.slice pD b.after.length cD) := (BY.out.after HBL1.out).cell 6
    have ly := (BY.out.after HBL1.out).lt
    go_wp2_with fail
    refine (light_c w1 _ b (HB0.out.after HBL1.out)).mono ?_
    rintro e w2 ⟨b2, rfl, hb2⟩
    have HBL2 : Hid (Below W0.heap.size W0 w2) := HBL1.out.trans (hb2.mono HBL1.out.size)
    clear hb2
    clear x0 x1 x2 x3 x4 x5 x6 lx
    clear y0 y1 y2 y3 y4 y5 y6 ly
    cases b2 with
    | false =>
      go_wp2_with fail
      refine (lives_c w2 (HE.out.after (HB.out.trans (HBL2.out.mono HB.out.size)))).mono ?_
      rintro e wz ⟨rfl, hbz⟩
      have HBZ : Hid (Below w.heap.size w wz) := (HB.out.trans (HBL2.out.mono HB.out.size)).trans (hbz.mono (HB.out.trans (HBL2.out.mono HB.out.size)).size)
      clear hbz
      go_wp2_with fail
      go_ret
      exact ⟨rfl, HBZ.out⟩
    | true =>
      have x0 : w2.cell? ⟨w.heap.size, 0, none⟩ = some (.int .u8 (a.kind : Int)) := (BX.out.after HBL2.out).cell 0
      have x1 : w2.cell? ⟨w.heap.size, 1, none⟩ = some (.int .i64 a.place) := (BX.out.after HBL2.out).cell 1
      have x2 : w2.cell? ⟨w.heap.size, 2, none⟩ = some (.int .i64 a.id) := (BX.out.after HBL2.out).cell 2
      have x3 : w2.cell? ⟨w.heap.size, 3, none⟩ = some (.int .i64 a.lease) := (BX.out.after HBL2.out).cell 3
      have x4 : w2.cell? ⟨w.heap.size, 4, none⟩ = some (.int .u8 (a.ans : Int)) := (BX.out.after HBL2.out).cell 4
      have x5 : w2.cell? ⟨w.heap.size, 5, none⟩ = some (.slice pA a.steps.length cA) := (BX.out.after HBL2.out).cell 5
      have x6 : w2.cell? ⟨w.heap.size, 6, none⟩ = some (.slice pB a.after.length cB) := (BX.out.after HBL2.out).cell 6
      have lx := (BX.out.after HBL2.out).lt
      go_wp2_with fail
      refine (Line_c w2 _ a (HA0.out.after HBL2.out) (HE.out.after (HB.out.trans (HBL2.out.mono HB.out.size)))).mono ?_
      unfold RetL
      rw [HLI.out]
      rintro e w3 ⟨rfl, hb3⟩
      have HBL3 : Hid (Below W0.heap.size W0 w3) := HBL2.out.trans (hb3.mono HBL2.out.size)
      clear hb3
      dsimp only
      clear x0 x1 x2 x3 x4 x5 x6 lx
      have x0 : w3.cell? ⟨w.heap.size, 0, none⟩ = some (.int .u8 (a.kind : Int)) := (BX.out.after HBL3.out).cell 0
      have x1 : w3.cell? ⟨w.heap.size, 1, none⟩ = some (.int .i64 a.place) := (BX.out.after HBL3.out).cell 1
      have x2 : w3.cell? ⟨w.heap.size, 2, none⟩ = some (.int .i64 a.id) := (BX.out.after HBL3.out).cell 2
      have x3 : w3.cell? ⟨w.heap.size, 3, none⟩ = some (.int .i64 a.lease) := (BX.out.after HBL3.out).cell 3
      have x4 : w3.cell? ⟨w.heap.size, 4, none⟩ = some (.int .u8 (a.ans : Int)) := (BX.out.after HBL3.out).cell 4
      have x5 : w3.cell? ⟨w.heap.size, 5, none⟩ = some (.slice pA a.steps.length cA) := (BX.out.after HBL3.out).cell 5
      have x6 : w3.cell? ⟨w.heap.size, 6, none⟩ = some (.slice pB a.after.length cB) := (BX.out.after HBL3.out).cell 6
      have lx := (BX.out.after HBL3.out).lt
      go_wp2_with fail
      refine (rLine_c w3 _ a (HA0.out.after HBL3.out)).mono ?_
      unfold RetL
      rw [HLI.out]
      rintro e w4 ⟨rfl, hb4⟩
      have HBL4 : Hid (Below W0.heap.size W0 w4) := HBL3.out.trans (hb4.mono HBL3.out.size)
      clear hb4
      dsimp only
      clear x0 x1 x2 x3 x4 x5 x6 lx
      have x0 : w4.cell? ⟨w.heap.size, 0, none⟩ = some (.int .u8 (a.kind : Int)) := (BX.out.after HBL4.out).cell 0
      have x1 : w4.cell? ⟨w.heap.size, 1, none⟩ = some (.int .i64 a.place) := (BX.out.after HBL4.out).cell 1
      have x2 : w4.cell? ⟨w.heap.size, 2, none⟩ = some (.int .i64 a.id) := (BX.out.after HBL4.out).cell 2
      have x3 : w4.cell? ⟨w.heap.size, 3, none⟩ = some (.int .i64 a.lease) := (BX.out.after HBL4.out).cell 3
      have x4 : w4.cell? ⟨w.heap.size, 4, none⟩ = some (.int .u8 (a.ans : Int)) := (BX.out.after HBL4.out).cell 4
      have x5 : w4.cell? ⟨w.heap.size, 5, none⟩ = some (.slice pA a.steps.length cA) := (BX.out.after HBL4.out).cell 5
      have x6 : w4.cell? ⟨w.heap.size, 6, none⟩ = some (.slice pB a.after.length cB) := (BX.out.after HBL4.out).cell 6
      have lx := (BX.out.after HBL4.out).lt
      have y0 : w4.cell? ⟨w.heap.size + 1, 0, none⟩ = some (.int .u8 (b.kind : Int)) := (BY.out.after HBL4.out).cell 0
      have y1 : w4.cell? ⟨w.heap.size + 1, 1, none⟩ = some (.int .i64 b.place) := (BY.out.after HBL4.out).cell 1
      have y2 : w4.cell? ⟨w.heap.size + 1, 2, none⟩ = some (.int .i64 b.id) := (BY.out.after HBL4.out).cell 2
      have y3 : w4.cell? ⟨w.heap.size + 1, 3, none⟩ = some (.int .i64 b.lease) := (BY.out.after HBL4.out).cell 3
      have y4 : w4.cell? ⟨w.heap.size + 1, 4, none⟩ = some (.int .u8 (b.ans : Int)) := (BY.out.after HBL4.out).cell 4
      have y5 : w4.cell? ⟨w.heap.size + 1, 5, none⟩ = some (.slice pC b.steps.length cC) := (BY.out.after HBL4.out).cell 5
      have y6 : w4.cell? ⟨w.heap.size + 1, 6, none⟩ = some (.slice pD b.after.length cD) := (BY.out.after HBL4.out).cell 6
      have ly := (BY.out.after HBL4.out).lt
      have HA4 := Lib.hid (HA0.out.after HBL4.out)
      have HB4 := Lib.hid (HB0.out.after HBL4.out)
      have HE4 : Hid (Env w4) := HE.out.after (HB.out.trans (HBL4.out.mono HB.out.size))
      go_upto_region 6 with fail
      refine wp_region_gj (J := GJ _ (fun _ => SJ 0 (fun κ => match κ with | 0 => (.eq (.string (bs x))) | 1 => (.eq (.int .i64 (nS : Int))) | 2 => (.eq (.string (bs x))) | 3 => (.eq (.int .i64 (nS : Int))) | 4 => (.eq (.bool true)) | 5 => (.eq (.bool true)) | 6 => (.eq (.string (bs sx))) | 7 => (.eq (.string (bs sx))) | 8 => (.eq (.bool true)) | 9 => (.eq (.bool true)) | 10 => (.eq (.bool true)) | 11 => (.eq (.int .i64 ex)) | 12 => (.eq (.int .i64 ex)) | 13 => (.eq (.bool true)) | 14 => (.eq (.bool true)) | 15 => (.eq (.bool true)) | 16 => (.eq (.agg #[.int .u8 (a.kind : Int), .int .i64 a.place, .int .i64 a.id, .int .i64 a.lease, .int .u8 (a.ans : Int), .slice pA a.steps.length cA, .slice pB a.after.length cB])) | 17 => (.eq (.agg #[.int .u8 (b.kind : Int), .int .i64 b.place, .int .i64 b.id, .int .i64 b.lease, .int .u8 (b.ans : Int), .slice pC b.steps.length cC, .slice pD b.after.length cD])) | 18 => (.eq (.bool pe)) | 19 => (.eq (.agg #[.int .u8 (a.kind : Int), .int .i64 a.place, .int .i64 a.id, .int .i64 a.lease, .int .u8 (a.ans : Int), .slice pA a.steps.length cA, .slice pB a.after.length cB])) | 20 => (.eq (.agg #[.int .u8 (b.kind : Int), .int .i64 b.place, .int .i64 b.id, .int .i64 b.lease, .int .u8 (b.ans : Int), .slice pC b.steps.length cC, .slice pD b.after.length cD])) | 21 => (.eq (.bool pe)) | 22 => (.eq (.bool true)) | 23 => (.eq (.bool true)) | 24 => (.eq (.bool true)) | 25 => (.eq (.agg #[.int .u8 (a.kind : Int), .int .i64 a.place, .int .i64 a.id, .int .i64 a.lease, .int .u8 (a.ans : Int), .slice pA a.steps.length cA, .slice pB a.after.length cB])) | 26 => (.eq (.agg #[.int .u8 (a.kind : Int), .int .i64 a.place, .int .i64 a.id, .int .i64 a.lease, .int .u8 (a.ans : Int), .slice pA a.steps.length cA, .slice pB a.after.length cB])) | 27 => (.eq (.bool true)) | 28 => (.eq (.bool true)) | 29 => (.eq (.bool true)) | 30 => (.eq (.bool true)) | 31 => (.eq (.bool true)) | 32 => (.eq (.bool true)) | _ => .any)) (fun _ _ w => Below w4.heap.size w4 w) _) (by kernel_rfl) ?_ ?_ (GJ.start (below_dr (Below.refl _ _)))
      · intro listed a_ w9 i_ hr hj
        obtain ⟨hi12, hun, _, _, _⟩ := ready_mem hr
        have h12 : i_ ∈ List.range 33 := List.mem_range.2 hi12
        simp only [List.range, List.range.loop, List.mem_cons, List.not_mem_nil, or_false] at h12
        obtain ⟨f, rfl, hcm, hf⟩ := hj.opened [35, 36, 37, 38, 39, 40, 41, 42, 43, 44, 45, 46, 47, 48, 49, 50, 51, 52, 53, 54, 55, 56, 57, 58, 59, 60, 61, 62, 63, 64, 65, 66, 6] (by kernel_rfl)
        replace hcm : Below w4.heap.size w4 w9 := hcm
        rcases h12 with rfl | rfl | rfl | rfl | rfl | rfl | rfl | rfl | rfl | rfl | rfl | rfl | rfl | rfl | rfl | rfl | rfl | rfl | rfl | rfl | rfl | rfl | rfl | rfl | rfl | rfl | rfl | rfl | rfl | rfl | rfl | rfl | rfl
        · refine GJ.op hj (by kernel_rfl) hr rfl [35, 36, 37, 38, 39, 40, 41, 42, 43, 44, 45, 46, 47, 48, 49, 50, 51, 52, 53, 54, 55, 56, 57, 58, 59, 60, 61, 62, 63, 64, 65, 66, 6] (by kernel_rfl) (fun K hK => ?_)
          simp only [Act.put, List.foldl_cons, List.foldl_nil, List.setIfInBounds_toArray, List.set_cons_zero, List.set_cons_succ] at hK ⊢
          clear hj hf
          go_simp
          exact hK _ _ (fun k v _ _ h => h.keep (Below.refl _ _)) (fun t ht => SJ.of (.eq (.string (bs x))) rfl rfl) (hcm.trans ((Below.refl _ _).mono hcm.size))
        · have e1 : f 35 = .string (bs x) := hf 0 _ _ rfl rfl (up_dep hr (by kernel_rfl))
          refine GJ.op hj (by kernel_rfl) hr rfl [35, 36, 37, 38, 39, 40, 41, 42, 43, 44, 45, 46, 47, 48, 49, 50, 51, 52, 53, 54, 55, 56, 57, 58, 59, 60, 61, 62, 63, 64, 65, 66, 6] (by kernel_rfl) (fun K hK => ?_)
          simp only [Act.put, List.foldl_cons, List.foldl_nil, List.setIfInBounds_toArray, List.set_cons_zero, List.set_cons_succ] at hK ⊢
          clear hj hf
          rw [e1] at hK ⊢
          clear e1
          go_simp
          refine (HSU.out w9).mono ?_
          skip
          rintro e w11 ⟨rfl, hb11⟩
          exact hK _ _ (fun k v _ _ h => h.keep hb11) (fun t ht => SJ.of (.eq (.int .i64 (nS : Int))) rfl rfl) (hcm.trans (hb11.mono hcm.size))
        · refine GJ.op hj (by kernel_rfl) hr rfl [35, 36, 37, 38, 39, 40, 41, 42, 43, 44, 45, 46, 47, 48, 49, 50, 51, 52, 53, 54, 55, 56, 57, 58, 59, 60, 61, 62, 63, 64, 65, 66, 6] (by kernel_rfl) (fun K hK => ?_)
          simp only [Act.put, List.foldl_cons, List.foldl_nil, List.setIfInBounds_toArray, List.set_cons_zero, List.set_cons_succ] at hK ⊢
          clear hj hf
          go_simp
          exact hK _ _ (fun k v _ _ h => h.keep (Below.refl _ _)) (fun t ht => SJ.of (.eq (.string (bs x))) rfl rfl) (hcm.trans ((Below.refl _ _).mono hcm.size))
        · have e1 : f 37 = .string (bs x) := hf 2 _ _ rfl rfl (up_dep hr (by kernel_rfl))
          refine GJ.op hj (by kernel_rfl) hr rfl [35, 36, 37, 38, 39, 40, 41, 42, 43, 44, 45, 46, 47, 48, 49, 50, 51, 52, 53, 54, 55, 56, 57, 58, 59, 60, 61, 62, 63, 64, 65, 66, 6] (by kernel_rfl) (fun K hK => ?_)
          simp only [Act.put, List.foldl_cons, List.foldl_nil, List.setIfInBounds_toArray, List.set_cons_zero, List.set_cons_succ] at hK ⊢
          clear hj hf
          rw [e1] at hK ⊢
          clear e1
          go_simp
          refine (HRS.out w9).mono ?_
          skip
          rintro e w11 ⟨rfl, hb11⟩
          exact hK _ _ (fun k v _ _ h => h.keep hb11) (fun t ht => SJ.of (.eq (.int .i64 (nS : Int))) rfl rfl) (hcm.trans (hb11.mono hcm.size))
        · have e1 : f 36 = .int .i64 (nS : Int) := hf 1 _ _ rfl rfl (up_dep hr (by kernel_rfl))
          have e2 : f 38 = .int .i64 (nS : Int) := hf 3 _ _ rfl rfl (up_dep hr (by kernel_rfl))
          refine GJ.op hj (by kernel_rfl) hr rfl [35, 36, 37, 38, 39, 40, 41, 42, 43, 44, 45, 46, 47, 48, 49, 50, 51, 52, 53, 54, 55, 56, 57, 58, 59, 60, 61, 62, 63, 64, 65, 66, 6] (by kernel_rfl) (fun K hK => ?_)
          simp only [Act.put, List.foldl_cons, List.foldl_nil, List.setIfInBounds_toArray, List.set_cons_zero, List.set_cons_succ] at hK ⊢
          clear hj hf
          rw [e1, e2] at hK ⊢
          clear e1 e2
          go_simp
          exact hK _ _ (fun k v _ _ h => h.keep (Below.refl _ _)) (fun t ht => SJ.of (.eq (.bool true)) rfl rfl) (hcm.trans ((Below.refl _ _).mono hcm.size))
        · have e1 : f 39 = .bool true := hf 4 _ _ rfl rfl (up_dep hr (by kernel_rfl))
          refine GJ.op hj (by kernel_rfl) hr rfl [35, 36, 37, 38, 39, 40, 41, 42, 43, 44, 45, 46, 47, 48, 49, 50, 51, 52, 53, 54, 55, 56, 57, 58, 59, 60, 61, 62, 63, 64, 65, 66, 6] (by kernel_rfl) (fun K hK => ?_)
          simp only [Act.put, List.foldl_cons, List.foldl_nil, List.setIfInBounds_toArray, List.set_cons_zero, List.set_cons_succ] at hK ⊢
          clear hj hf
          rw [e1] at hK ⊢
          clear e1
          go_simp
          exact hK _ _ (fun k v _ _ h => h.keep (Below.refl _ _)) (fun t ht => SJ.of (.eq (.bool true)) rfl rfl) (hcm.trans ((Below.refl _ _).mono hcm.size))
        · have gg := hj.got 5 _ _ rfl rfl (up_dep hr (by kernel_rfl))
          refine GJ.yes hj (by kernel_rfl) hr rfl [35, 36, 37, 38, 39, 40, 41, 42, 43, 44, 45, 46, 47, 48, 49, 50, 51, 52, 53, 54, 55, 56, 57, 58, 59, 60, 61, 62, 63, 64, 65, 66, 6] (by kernel_rfl) rfl (j := 5) rfl rfl (c := true) gg rfl (fun K hK => ?_)
          clear gg
          simp only [Act.put, List.foldl_cons, List.foldl_nil, List.setIfInBounds_toArray, List.set_cons_zero, List.set_cons_succ] at hK ⊢
          clear hj hf
          go_simp
          exact hK _ _ (fun k v _ _ h => h.keep (Below.refl _ _)) (fun t ht => SJ.of (.eq (.string (bs sx))) rfl rfl) (hcm.trans ((Below.refl _ _).mono hcm.size))
        · have gg := hj.got 5 _ _ rfl rfl (up_dep hr (by kernel_rfl))
          refine GJ.yes hj (by kernel_rfl) hr rfl [35, 36, 37, 38, 39, 40, 41, 42, 43, 44, 45, 46, 47, 48, 49, 50, 51, 52, 53, 54, 55, 56, 57, 58, 59, 60, 61, 62, 63, 64, 65, 66, 6] (by kernel_rfl) rfl (j := 5) rfl rfl (c := true) gg rfl (fun K hK => ?_)
          clear gg
          simp only [Act.put, List.foldl_cons, List.foldl_nil, List.setIfInBounds_toArray, List.set_cons_zero, List.set_cons_succ] at hK ⊢
          clear hj hf
          go_simp
          exact hK _ _ (fun k v _ _ h => h.keep (Below.refl _ _)) (fun t ht => SJ.of (.eq (.string (bs sx))) rfl rfl) (hcm.trans ((Below.refl _ _).mono hcm.size))
        · have gg := hj.got 5 _ _ rfl rfl (up_dep hr (by kernel_rfl))
          have e1 : f 41 = .string (bs sx) := hf 6 _ _ rfl rfl (up_dep hr (by kernel_rfl))
          have e2 : f 42 = .string (bs sx) := hf 7 _ _ rfl rfl (up_dep hr (by kernel_rfl))
          refine GJ.yes hj (by kernel_rfl) hr rfl [35, 36, 37, 38, 39, 40, 41, 42, 43, 44, 45, 46, 47, 48, 49, 50, 51, 52, 53, 54, 55, 56, 57, 58, 59, 60, 61, 62, 63, 64, 65, 66, 6] (by kernel_rfl) rfl (j := 5) rfl rfl (c := true) gg rfl (fun K hK => ?_)
          clear gg
          simp only [Act.put, List.foldl_cons, List.foldl_nil, List.setIfInBounds_toArray, List.set_cons_zero, List.set_cons_succ] at hK ⊢
          clear hj hf
          rw [e1, e2] at hK ⊢
          clear e1 e2
          go_simp
          exact hK _ _ (fun k v _ _ h => h.keep (Below.refl _ _)) (fun t ht => SJ.of (.eq (.bool true)) rfl rfl) (hcm.trans ((Below.refl _ _).mono hcm.size))
        · have e1 : f 40 = .bool true := hf 5 _ _ rfl rfl (up_dep hr (by kernel_rfl))
          have e2 : f 43 = .bool true := hf 8 _ _ rfl rfl (up_dep hr (by kernel_rfl))
          refine GJ.op hj (by kernel_rfl) hr rfl [35, 36, 37, 38, 39, 40, 41, 42, 43, 44, 45, 46, 47, 48, 49, 50, 51, 52, 53, 54, 55, 56, 57, 58, 59, 60, 61, 62, 63, 64, 65, 66, 6] (by kernel_rfl) (fun K hK => ?_)
          simp only [Act.put, List.foldl_cons, List.foldl_nil, List.setIfInBounds_toArray, List.set_cons_zero, List.set_cons_succ] at hK ⊢
          clear hj hf
          rw [e1, e2] at hK ⊢
          clear e1 e2
          go_simp
          exact hK _ _ (fun k v _ _ h => h.keep (Below.refl _ _)) (fun t ht => SJ.of (.eq (.bool true)) rfl rfl) (hcm.trans ((Below.refl _ _).mono hcm.size))
        · have e1 : f 44 = .bool true := hf 9 _ _ rfl rfl (up_dep hr (by kernel_rfl))
          refine GJ.op hj (by kernel_rfl) hr rfl [35, 36, 37, 38, 39, 40, 41, 42, 43, 44, 45, 46, 47, 48, 49, 50, 51, 52, 53, 54, 55, 56, 57, 58, 59, 60, 61, 62, 63, 64, 65, 66, 6] (by kernel_rfl) (fun K hK => ?_)
          simp only [Act.put, List.foldl_cons, List.foldl_nil, List.setIfInBounds_toArray, List.set_cons_zero, List.set_cons_succ] at hK ⊢
          clear hj hf
          rw [e1] at hK ⊢
          clear e1
          go_simp
          exact hK _ _ (fun k v _ _ h => h.keep (Below.refl _ _)) (fun t ht => SJ.of (.eq (.bool true)) rfl rfl) (hcm.trans ((Below.refl _ _).mono hcm.size))
        · have gg := hj.got 10 _ _ rfl rfl (up_dep hr (by kernel_rfl))
          refine GJ.yes hj (by kernel_rfl) hr rfl [35, 36, 37, 38, 39, 40, 41, 42, 43, 44, 45, 46, 47, 48, 49, 50, 51, 52, 53, 54, 55, 56, 57, 58, 59, 60, 61, 62, 63, 64, 65, 66, 6] (by kernel_rfl) rfl (j := 10) rfl rfl (c := true) gg rfl (fun K hK => ?_)
          clear gg
          simp only [Act.put, List.foldl_cons, List.foldl_nil, List.setIfInBounds_toArray, List.set_cons_zero, List.set_cons_succ] at hK ⊢
          clear hj hf
          go_simp
          exact hK _ _ (fun k v _ _ h => h.keep (Below.refl _ _)) (fun t ht => SJ.of (.eq (.int .i64 ex)) rfl rfl) (hcm.trans ((Below.refl _ _).mono hcm.size))
        · have gg := hj.got 10 _ _ rfl rfl (up_dep hr (by kernel_rfl))
          refine GJ.yes hj (by kernel_rfl) hr rfl [35, 36, 37, 38, 39, 40, 41, 42, 43, 44, 45, 46, 47, 48, 49, 50, 51, 52, 53, 54, 55, 56, 57, 58, 59, 60, 61, 62, 63, 64, 65, 66, 6] (by kernel_rfl) rfl (j := 10) rfl rfl (c := true) gg rfl (fun K hK => ?_)
          clear gg
          simp only [Act.put, List.foldl_cons, List.foldl_nil, List.setIfInBounds_toArray, List.set_cons_zero, List.set_cons_succ] at hK ⊢
          clear hj hf
          go_simp
          exact hK _ _ (fun k v _ _ h => h.keep (Below.refl _ _)) (fun t ht => SJ.of (.eq (.int .i64 ex)) rfl rfl) (hcm.trans ((Below.refl _ _).mono hcm.size))
        · have gg := hj.got 10 _ _ rfl rfl (up_dep hr (by kernel_rfl))
          have e1 : f 46 = .int .i64 ex := hf 11 _ _ rfl rfl (up_dep hr (by kernel_rfl))
          have e2 : f 47 = .int .i64 ex := hf 12 _ _ rfl rfl (up_dep hr (by kernel_rfl))
          refine GJ.yes hj (by kernel_rfl) hr rfl [35, 36, 37, 38, 39, 40, 41, 42, 43, 44, 45, 46, 47, 48, 49, 50, 51, 52, 53, 54, 55, 56, 57, 58, 59, 60, 61, 62, 63, 64, 65, 66, 6] (by kernel_rfl) rfl (j := 10) rfl rfl (c := true) gg rfl (fun K hK => ?_)
          clear gg
          simp only [Act.put, List.foldl_cons, List.foldl_nil, List.setIfInBounds_toArray, List.set_cons_zero, List.set_cons_succ] at hK ⊢
          clear hj hf
          rw [e1, e2] at hK ⊢
          clear e1 e2
          go_simp
          exact hK _ _ (fun k v _ _ h => h.keep (Below.refl _ _)) (fun t ht => SJ.of (.eq (.bool true)) rfl rfl) (hcm.trans ((Below.refl _ _).mono hcm.size))
        · have e1 : f 45 = .bool true := hf 10 _ _ rfl rfl (up_dep hr (by kernel_rfl))
          have e2 : f 48 = .bool true := hf 13 _ _ rfl rfl (up_dep hr (by kernel_rfl))
          refine GJ.op hj (by kernel_rfl) hr rfl [35, 36, 37, 38, 39, 40, 41, 42, 43, 44, 45, 46, 47, 48, 49, 50, 51, 52, 53, 54, 55, 56, 57, 58, 59, 60, 61, 62, 63, 64, 65, 66, 6] (by kernel_rfl) (fun K hK => ?_)
          simp only [Act.put, List.foldl_cons, List.foldl_nil, List.setIfInBounds_toArray, List.set_cons_zero, List.set_cons_succ] at hK ⊢
          clear hj hf
          rw [e1, e2] at hK ⊢
          clear e1 e2
          go_simp
          exact hK _ _ (fun k v _ _ h => h.keep (Below.refl _ _)) (fun t ht => SJ.of (.eq (.bool true)) rfl rfl) (hcm.trans ((Below.refl _ _).mono hcm.size))
        · have e1 : f 49 = .bool true := hf 14 _ _ rfl rfl (up_dep hr (by kernel_rfl))
          refine GJ.op hj (by kernel_rfl) hr rfl [35, 36, 37, 38, 39, 40, 41, 42, 43, 44, 45, 46, 47, 48, 49, 50, 51, 52, 53, 54, 55, 56, 57, 58, 59, 60, 61, 62, 63, 64, 65, 66, 6] (by kernel_rfl) (fun K hK => ?_)
          simp only [Act.put, List.foldl_cons, List.foldl_nil, List.setIfInBounds_toArray, List.set_cons_zero, List.set_cons_succ] at hK ⊢
          clear hj hf
          rw [e1] at hK ⊢
          clear e1
          go_simp
          exact hK _ _ (fun k v _ _ h => h.keep (Below.refl _ _)) (fun t ht => SJ.of (.eq (.bool true)) rfl rfl) (hcm.trans ((Below.refl _ _).mono hcm.size))
        · have gg := hj.got 15 _ _ rfl rfl (up_dep hr (by kernel_rfl))
          have k0 := keep_cell hcm x0
          have k1 := keep_cell hcm x1
          have k2 := keep_cell hcm x2
          have k3 := keep_cell hcm x3
          have k4 := keep_cell hcm x4
          have k5 := keep_cell hcm x5
          have k6 := keep_cell hcm x6
          have klt := Nat.lt_of_lt_of_le lx hcm.size
          refine GJ.yes hj (by kernel_rfl) hr rfl [35, 36, 37, 38, 39, 40, 41, 42, 43, 44, 45, 46, 47, 48, 49, 50, 51, 52, 53, 54, 55, 56, 57, 58, 59, 60, 61, 62, 63, 64, 65, 66, 6] (by kernel_rfl) rfl (j := 15) rfl rfl (c := true) gg rfl (fun K hK => ?_)
          clear gg
          simp only [Act.put, List.foldl_cons, List.foldl_nil, List.setIfInBounds_toArray, List.set_cons_zero, List.set_cons_succ] at hK ⊢
          clear hj hf
          go_simp
          exact hK _ _ (fun k v _ _ h => h.keep (Below.refl _ _)) (fun t ht => SJ.of (.eq (.agg #[.int .u8 (a.kind : Int), .int .i64 a.place, .int .i64 a.id, .int .i64 a.lease, .int .u8 (a.ans : Int), .slice pA a.steps.length cA, .slice pB a.after.length cB])) rfl rfl) (hcm.trans ((Below.refl _ _).mono hcm.size))
        · have gg := hj.got 15 _ _ rfl rfl (up_dep hr (by kernel_rfl))
          have k0 := keep_cell hcm y0
          have k1 := keep_cell hcm y1
          have k2 := keep_cell hcm y2
          have k3 := keep_cell hcm y3
          have k4 := keep_cell hcm y4
          have k5 := keep_cell hcm y5
          have k6 := keep_cell hcm y6
          have klt := Nat.lt_of_lt_of_le ly hcm.size
          refine GJ.yes hj (by kernel_rfl) hr rfl [35, 36, 37, 38, 39, 40, 41, 42, 43, 44, 45, 46, 47, 48, 49, 50, 51, 52, 53, 54, 55, 56, 57, 58, 59, 60, 61, 62, 63, 64, 65, 66, 6] (by kernel_rfl) rfl (j := 15) rfl rfl (c := true) gg rfl (fun K hK => ?_)
          clear gg
          simp only [Act.put, List.foldl_cons, List.foldl_nil, List.setIfInBounds_toArray, List.set_cons_zero, List.set_cons_succ] at hK ⊢
          clear hj hf
          go_simp
          exact hK _ _ (fun k v _ _ h => h.keep (Below.refl _ _)) (fun t ht => SJ.of (.eq (.agg #[.int .u8 (b.kind : Int), .int .i64 b.place, .int .i64 b.id, .int .i64 b.lease, .int .u8 (b.ans : Int), .slice pC b.steps.length cC, .slice pD b.after.length cD])) rfl rfl) (hcm.trans ((Below.refl _ _).mono hcm.size))
        · have gg := hj.got 15 _ _ rfl rfl (up_dep hr (by kernel_rfl))
          have e1 : f 51 = .agg #[.int .u8 (a.kind : Int), .int .i64 a.place, .int .i64 a.id, .int .i64 a.lease, .int .u8 (a.ans : Int), .slice pA a.steps.length cA, .slice pB a.after.length cB] := hf 16 _ _ rfl rfl (up_dep hr (by kernel_rfl))
          have e2 : f 52 = .agg #[.int .u8 (b.kind : Int), .int .i64 b.place, .int .i64 b.id, .int .i64 b.lease, .int .u8 (b.ans : Int), .slice pC b.steps.length cC, .slice pD b.after.length cD] := hf 17 _ _ rfl rfl (up_dep hr (by kernel_rfl))
          refine GJ.yes hj (by kernel_rfl) hr rfl [35, 36, 37, 38, 39, 40, 41, 42, 43, 44, 45, 46, 47, 48, 49, 50, 51, 52, 53, 54, 55, 56, 57, 58, 59, 60, 61, 62, 63, 64, 65, 66, 6] (by kernel_rfl) rfl (j := 15) rfl rfl (c := true) gg rfl (fun K hK => ?_)
          clear gg
          simp only [Act.put, List.foldl_cons, List.foldl_nil, List.setIfInBounds_toArray, List.set_cons_zero, List.set_cons_succ] at hK ⊢
          clear hj hf
          rw [e1, e2] at hK ⊢
          clear e1 e2
          go_simp
          refine (Same_c w9 (.agg #[.int .u8 (a.kind : Int), .int .i64 a.place, .int .i64 a.id, .int .i64 a.lease, .int .u8 (a.ans : Int), .slice pA a.steps.length cA, .slice pB a.after.length cB]) (.agg #[.int .u8 (b.kind : Int), .int .i64 b.place, .int .i64 b.id, .int .i64 b.lease, .int .u8 (b.ans : Int), .slice pC b.steps.length cC, .slice pD b.after.length cD]) a b (HA4.out.after hcm) (HB4.out.after hcm)).mono ?_
          rw [HPE.out]
          rintro e w11 ⟨rfl, hb11⟩
          exact hK _ _ (fun k v _ _ h => h.keep hb11) (fun t ht => SJ.of (.eq (.bool pe)) rfl rfl) (hcm.trans (hb11.mono hcm.size))
        · have gg := hj.got 15 _ _ rfl rfl (up_dep hr (by kernel_rfl))
          have k0 := keep_cell hcm x0
          have k1 := keep_cell hcm x1
          have k2 := keep_cell hcm x2
          have k3 := keep_cell hcm x3
          have k4 := keep_cell hcm x4
          have k5 := keep_cell hcm x5
          have k6 := keep_cell hcm x6
          have klt := Nat.lt_of_lt_of_le lx hcm.size
          refine GJ.yes hj (by kernel_rfl) hr rfl [35, 36, 37, 38, 39, 40, 41, 42, 43, 44, 45, 46, 47, 48, 49, 50, 51, 52, 53, 54, 55, 56, 57, 58, 59, 60, 61, 62, 63, 64, 65, 66, 6] (by kernel_rfl) rfl (j := 15) rfl rfl (c := true) gg rfl (fun K hK => ?_)
          clear gg
          simp only [Act.put, List.foldl_cons, List.foldl_nil, List.setIfInBounds_toArray, List.set_cons_zero, List.set_cons_succ] at hK ⊢
          clear hj hf
          go_simp
          exact hK _ _ (fun k v _ _ h => h.keep (Below.refl _ _)) (fun t ht => SJ.of (.eq (.agg #[.int .u8 (a.kind : Int), .int .i64 a.place, .int .i64 a.id, .int .i64 a.lease, .int .u8 (a.ans : Int), .slice pA a.steps.length cA, .slice pB a.after.length cB])) rfl rfl) (hcm.trans ((Below.refl _ _).mono hcm.size))
        · have gg := hj.got 15 _ _ rfl rfl (up_dep hr (by kernel_rfl))
          have k0 := keep_cell hcm y0
          have k1 := keep_cell hcm y1
          have k2 := keep_cell hcm y2
          have k3 := keep_cell hcm y3
          have k4 := keep_cell hcm y4
          have k5 := keep_cell hcm y5
          have k6 := keep_cell hcm y6
          have klt := Nat.lt_of_lt_of_le ly hcm.size
          refine GJ.yes hj (by kernel_rfl) hr rfl [35, 36, 37, 38, 39, 40, 41, 42, 43, 44, 45, 46, 47, 48, 49, 50, 51, 52, 53, 54, 55, 56, 57, 58, 59, 60, 61, 62, 63, 64, 65, 66, 6] (by kernel_rfl) rfl (j := 15) rfl rfl (c := true) gg rfl (fun K hK => ?_)
          clear gg
          simp only [Act.put, List.foldl_cons, List.foldl_nil, List.setIfInBounds_toArray, List.set_cons_zero, List.set_cons_succ] at hK ⊢
          clear hj hf
          go_simp
          exact hK _ _ (fun k v _ _ h => h.keep (Below.refl _ _)) (fun t ht => SJ.of (.eq (.agg #[.int .u8 (b.kind : Int), .int .i64 b.place, .int .i64 b.id, .int .i64 b.lease, .int .u8 (b.ans : Int), .slice pC b.steps.length cC, .slice pD b.after.length cD])) rfl rfl) (hcm.trans ((Below.refl _ _).mono hcm.size))
        · have gg := hj.got 15 _ _ rfl rfl (up_dep hr (by kernel_rfl))
          have e1 : f 54 = .agg #[.int .u8 (a.kind : Int), .int .i64 a.place, .int .i64 a.id, .int .i64 a.lease, .int .u8 (a.ans : Int), .slice pA a.steps.length cA, .slice pB a.after.length cB] := hf 19 _ _ rfl rfl (up_dep hr (by kernel_rfl))
          have e2 : f 55 = .agg #[.int .u8 (b.kind : Int), .int .i64 b.place, .int .i64 b.id, .int .i64 b.lease, .int .u8 (b.ans : Int), .slice pC b.steps.length cC, .slice pD b.after.length cD] := hf 20 _ _ rfl rfl (up_dep hr (by kernel_rfl))
          refine GJ.yes hj (by kernel_rfl) hr rfl [35, 36, 37, 38, 39, 40, 41, 42, 43, 44, 45, 46, 47, 48, 49, 50, 51, 52, 53, 54, 55, 56, 57, 58, 59, 60, 61, 62, 63, 64, 65, 66, 6] (by kernel_rfl) rfl (j := 15) rfl rfl (c := true) gg rfl (fun K hK => ?_)
          clear gg
          simp only [Act.put, List.foldl_cons, List.foldl_nil, List.setIfInBounds_toArray, List.set_cons_zero, List.set_cons_succ] at hK ⊢
          clear hj hf
          rw [e1, e2] at hK ⊢
          clear e1 e2
          go_simp
          refine (rSame_c w9 (.agg #[.int .u8 (a.kind : Int), .int .i64 a.place, .int .i64 a.id, .int .i64 a.lease, .int .u8 (a.ans : Int), .slice pA a.steps.length cA, .slice pB a.after.length cB]) (.agg #[.int .u8 (b.kind : Int), .int .i64 b.place, .int .i64 b.id, .int .i64 b.lease, .int .u8 (b.ans : Int), .slice pC b.steps.length cC, .slice pD b.after.length cD]) a b (HA4.out.after hcm) (HB4.out.after hcm)).mono ?_
          rw [HPE.out]
          rintro e w11 ⟨rfl, hb11⟩
          exact hK _ _ (fun k v _ _ h => h.keep hb11) (fun t ht => SJ.of (.eq (.bool pe)) rfl rfl) (hcm.trans (hb11.mono hcm.size))
        · have gg := hj.got 15 _ _ rfl rfl (up_dep hr (by kernel_rfl))
          have e1 : f 53 = .bool pe := hf 18 _ _ rfl rfl (up_dep hr (by kernel_rfl))
          have e2 : f 56 = .bool pe := hf 21 _ _ rfl rfl (up_dep hr (by kernel_rfl))
          refine GJ.yes hj (by kernel_rfl) hr rfl [35, 36, 37, 38, 39, 40, 41, 42, 43, 44, 45, 46, 47, 48, 49, 50, 51, 52, 53, 54, 55, 56, 57, 58, 59, 60, 61, 62, 63, 64, 65, 66, 6] (by kernel_rfl) rfl (j := 15) rfl rfl (c := true) gg rfl (fun K hK => ?_)
          clear gg
          simp only [Act.put, List.foldl_cons, List.foldl_nil, List.setIfInBounds_toArray, List.set_cons_zero, List.set_cons_succ] at hK ⊢
          clear hj hf
          rw [e1, e2] at hK ⊢
          clear e1 e2
          go_simp
          exact hK _ _ (fun k v _ _ h => h.keep (Below.refl _ _)) (fun t ht => SJ.of (.eq (.bool true)) rfl rfl) (hcm.trans ((Below.refl _ _).mono hcm.size))
        · have e1 : f 50 = .bool true := hf 15 _ _ rfl rfl (up_dep hr (by kernel_rfl))
          have e2 : f 57 = .bool true := hf 22 _ _ rfl rfl (up_dep hr (by kernel_rfl))
          refine GJ.op hj (by kernel_rfl) hr rfl [35, 36, 37, 38, 39, 40, 41, 42, 43, 44, 45, 46, 47, 48, 49, 50, 51, 52, 53, 54, 55, 56, 57, 58, 59, 60, 61, 62, 63, 64, 65, 66, 6] (by kernel_rfl) (fun K hK => ?_)
          simp only [Act.put, List.foldl_cons, List.foldl_nil, List.setIfInBounds_toArray, List.set_cons_zero, List.set_cons_succ] at hK ⊢
          clear hj hf
          rw [e1, e2] at hK ⊢
          clear e1 e2
          go_simp
          exact hK _ _ (fun k v _ _ h => h.keep (Below.refl _ _)) (fun t ht => SJ.of (.eq (.bool true)) rfl rfl) (hcm.trans ((Below.refl _ _).mono hcm.size))
        · have e1 : f 58 = .bool true := hf 23 _ _ rfl rfl (up_dep hr (by kernel_rfl))
          refine GJ.op hj (by kernel_rfl) hr rfl [35, 36, 37, 38, 39, 40, 41, 42, 43, 44, 45, 46, 47, 48, 49, 50, 51, 52, 53, 54, 55, 56, 57, 58, 59, 60, 61, 62, 63, 64, 65, 66, 6] (by kernel_rfl) (fun K hK => ?_)
          simp only [Act.put, List.foldl_cons, List.foldl_nil, List.setIfInBounds_toArray, List.set_cons_zero, List.set_cons_succ] at hK ⊢
          clear hj hf
          rw [e1] at hK ⊢
          clear e1
          go_simp
          exact hK _ _ (fun k v _ _ h => h.keep (Below.refl _ _)) (fun t ht => SJ.of (.eq (.bool true)) rfl rfl) (hcm.trans ((Below.refl _ _).mono hcm.size))
        · have gg := hj.got 24 _ _ rfl rfl (up_dep hr (by kernel_rfl))
          have k0 := keep_cell hcm x0
          have k1 := keep_cell hcm x1
          have k2 := keep_cell hcm x2
          have k3 := keep_cell hcm x3
          have k4 := keep_cell hcm x4
          have k5 := keep_cell hcm x5
          have k6 := keep_cell hcm x6
          have klt := Nat.lt_of_lt_of_le lx hcm.size
          refine GJ.yes hj (by kernel_rfl) hr rfl [35, 36, 37, 38, 39, 40, 41, 42, 43, 44, 45, 46, 47, 48, 49, 50, 51, 52, 53, 54, 55, 56, 57, 58, 59, 60, 61, 62, 63, 64, 65, 66, 6] (by kernel_rfl) rfl (j := 24) rfl rfl (c := true) gg rfl (fun K hK => ?_)
          clear gg
          simp only [Act.put, List.foldl_cons, List.foldl_nil, List.setIfInBounds_toArray, List.set_cons_zero, List.set_cons_succ] at hK ⊢
          clear hj hf
          go_simp
          exact hK _ _ (fun k v _ _ h => h.keep (Below.refl _ _)) (fun t ht => SJ.of (.eq (.agg #[.int .u8 (a.kind : Int), .int .i64 a.place, .int .i64 a.id, .int .i64 a.lease, .int .u8 (a.ans : Int), .slice pA a.steps.length cA, .slice pB a.after.length cB])) rfl rfl) (hcm.trans ((Below.refl _ _).mono hcm.size))
        · have gg := hj.got 24 _ _ rfl rfl (up_dep hr (by kernel_rfl))
          have k0 := keep_cell hcm x0
          have k1 := keep_cell hcm x1
          have k2 := keep_cell hcm x2
          have k3 := keep_cell hcm x3
          have k4 := keep_cell hcm x4
          have k5 := keep_cell hcm x5
          have k6 := keep_cell hcm x6
          have klt := Nat.lt_of_lt_of_le lx hcm.size
          refine GJ.yes hj (by kernel_rfl) hr rfl [35, 36, 37, 38, 39, 40, 41, 42, 43, 44, 45, 46, 47, 48, 49, 50, 51, 52, 53, 54, 55, 56, 57, 58, 59, 60, 61, 62, 63, 64, 65, 66, 6] (by kernel_rfl) rfl (j := 24) rfl rfl (c := true) gg rfl (fun K hK => ?_)
          clear gg
          simp only [Act.put, List.foldl_cons, List.foldl_nil, List.setIfInBounds_toArray, List.set_cons_zero, List.set_cons_succ] at hK ⊢
          clear hj hf
          go_simp
          exact hK _ _ (fun k v _ _ h => h.keep (Below.refl _ _)) (fun t ht => SJ.of (.eq (.agg #[.int .u8 (a.kind : Int), .int .i64 a.place, .int .i64 a.id, .int .i64 a.lease, .int .u8 (a.ans : Int), .slice pA a.steps.length cA, .slice pB a.after.length cB])) rfl rfl) (hcm.trans ((Below.refl _ _).mono hcm.size))
        · have gg := hj.got 24 _ _ rfl rfl (up_dep hr (by kernel_rfl))
          have e1 : f 60 = .agg #[.int .u8 (a.kind : Int), .int .i64 a.place, .int .i64 a.id, .int .i64 a.lease, .int .u8 (a.ans : Int), .slice pA a.steps.length cA, .slice pB a.after.length cB] := hf 25 _ _ rfl rfl (up_dep hr (by kernel_rfl))
          have e2 : f 61 = .agg #[.int .u8 (a.kind : Int), .int .i64 a.place, .int .i64 a.id, .int .i64 a.lease, .int .u8 (a.ans : Int), .slice pA a.steps.length cA, .slice pB a.after.length cB] := hf 26 _ _ rfl rfl (up_dep hr (by kernel_rfl))
          refine GJ.yes hj (by kernel_rfl) hr rfl [35, 36, 37, 38, 39, 40, 41, 42, 43, 44, 45, 46, 47, 48, 49, 50, 51, 52, 53, 54, 55, 56, 57, 58, 59, 60, 61, 62, 63, 64, 65, 66, 6] (by kernel_rfl) rfl (j := 24) rfl rfl (c := true) gg rfl (fun K hK => ?_)
          clear gg
          simp only [Act.put, List.foldl_cons, List.foldl_nil, List.setIfInBounds_toArray, List.set_cons_zero, List.set_cons_succ] at hK ⊢
          clear hj hf
          rw [e1, e2] at hK ⊢
          clear e1 e2
          go_simp
          refine (Same_c w9 (.agg #[.int .u8 (a.kind : Int), .int .i64 a.place, .int .i64 a.id, .int .i64 a.lease, .int .u8 (a.ans : Int), .slice pA a.steps.length cA, .slice pB a.after.length cB]) (.agg #[.int .u8 (a.kind : Int), .int .i64 a.place, .int .i64 a.id, .int .i64 a.lease, .int .u8 (a.ans : Int), .slice pA a.steps.length cA, .slice pB a.after.length cB]) a a (HA4.out.after hcm) (HA4.out.after hcm)).mono ?_
          rw [decide_eq_true (rfl : a = a)]
          rintro e w11 ⟨rfl, hb11⟩
          exact hK _ _ (fun k v _ _ h => h.keep hb11) (fun t ht => SJ.of (.eq (.bool true)) rfl rfl) (hcm.trans (hb11.mono hcm.size))
        · have e1 : f 59 = .bool true := hf 24 _ _ rfl rfl (up_dep hr (by kernel_rfl))
          have e2 : f 62 = .bool true := hf 27 _ _ rfl rfl (up_dep hr (by kernel_rfl))
          refine GJ.op hj (by kernel_rfl) hr rfl [35, 36, 37, 38, 39, 40, 41, 42, 43, 44, 45, 46, 47, 48, 49, 50, 51, 52, 53, 54, 55, 56, 57, 58, 59, 60, 61, 62, 63, 64, 65, 66, 6] (by kernel_rfl) (fun K hK => ?_)
          simp only [Act.put, List.foldl_cons, List.foldl_nil, List.setIfInBounds_toArray, List.set_cons_zero, List.set_cons_succ] at hK ⊢
          clear hj hf
          rw [e1, e2] at hK ⊢
          clear e1 e2
          go_simp
          exact hK _ _ (fun k v _ _ h => h.keep (Below.refl _ _)) (fun t ht => SJ.of (.eq (.bool true)) rfl rfl) (hcm.trans ((Below.refl _ _).mono hcm.size))
        · have e1 : f 63 = .bool true := hf 28 _ _ rfl rfl (up_dep hr (by kernel_rfl))
          refine GJ.op hj (by kernel_rfl) hr rfl [35, 36, 37, 38, 39, 40, 41, 42, 43, 44, 45, 46, 47, 48, 49, 50, 51, 52, 53, 54, 55, 56, 57, 58, 59, 60, 61, 62, 63, 64, 65, 66, 6] (by kernel_rfl) (fun K hK => ?_)
          simp only [Act.put, List.foldl_cons, List.foldl_nil, List.setIfInBounds_toArray, List.set_cons_zero, List.set_cons_succ] at hK ⊢
          clear hj hf
          rw [e1] at hK ⊢
          clear e1
          go_simp
          exact hK _ _ (fun k v _ _ h => h.keep (Below.refl _ _)) (fun t ht => SJ.of (.eq (.bool true)) rfl rfl) (hcm.trans ((Below.refl _ _).mono hcm.size))
        · have gg := hj.got 29 _ _ rfl rfl (up_dep hr (by kernel_rfl))
          refine GJ.yes hj (by kernel_rfl) hr rfl [35, 36, 37, 38, 39, 40, 41, 42, 43, 44, 45, 46, 47, 48, 49, 50, 51, 52, 53, 54, 55, 56, 57, 58, 59, 60, 61, 62, 63, 64, 65, 66, 6] (by kernel_rfl) rfl (j := 29) rfl rfl (c := true) gg rfl (fun K hK => ?_)
          clear gg
          simp only [Act.put, List.foldl_cons, List.foldl_nil, List.setIfInBounds_toArray, List.set_cons_zero, List.set_cons_succ] at hK ⊢
          clear hj hf
          go_simp
          refine (lives_c w9 (HE4.out.after hcm)).mono ?_
          skip
          rintro e w11 ⟨rfl, hb11⟩
          exact hK _ _ (fun k v _ _ h => h.keep hb11) (fun t ht => SJ.of (.eq (.bool true)) rfl rfl) (hcm.trans (hb11.mono hcm.size))
        · have e1 : f 64 = .bool true := hf 29 _ _ rfl rfl (up_dep hr (by kernel_rfl))
          have e2 : f 65 = .bool true := hf 30 _ _ rfl rfl (up_dep hr (by kernel_rfl))
          refine GJ.op hj (by kernel_rfl) hr rfl [35, 36, 37, 38, 39, 40, 41, 42, 43, 44, 45, 46, 47, 48, 49, 50, 51, 52, 53, 54, 55, 56, 57, 58, 59, 60, 61, 62, 63, 64, 65, 66, 6] (by kernel_rfl) (fun K hK => ?_)
          simp only [Act.put, List.foldl_cons, List.foldl_nil, List.setIfInBounds_toArray, List.set_cons_zero, List.set_cons_succ] at hK ⊢
          clear hj hf
          rw [e1, e2] at hK ⊢
          clear e1 e2
          go_simp
          exact hK _ _ (fun k v _ _ h => h.keep (Below.refl _ _)) (fun t ht => SJ.of (.eq (.bool true)) rfl rfl) (hcm.trans ((Below.refl _ _).mono hcm.size))
        · have e1 : f 66 = .bool true := hf 31 _ _ rfl rfl (up_dep hr (by kernel_rfl))
          refine GJ.op hj (by kernel_rfl) hr rfl [35, 36, 37, 38, 39, 40, 41, 42, 43, 44, 45, 46, 47, 48, 49, 50, 51, 52, 53, 54, 55, 56, 57, 58, 59, 60, 61, 62, 63, 64, 65, 66, 6] (by kernel_rfl) (fun K hK => ?_)
          simp only [Act.put, List.foldl_cons, List.foldl_nil, List.setIfInBounds_toArray, List.set_cons_zero, List.set_cons_succ] at hK ⊢
          clear hj hf
          rw [e1] at hK ⊢
          clear e1
          go_simp
          exact hK _ _ (fun k v _ _ h => h.keep (Below.refl _ _)) (fun t ht => SJ.of (.eq (.bool true)) rfl rfl) (hcm.trans ((Below.refl _ _).mono hcm.size))
      · intro listed a_ w10 hr hj
        have hu : ∀ k, k < 33 → up listed k := fun k hk => all_up (by kernel_rfl) hj.lsize hr k hk
        obtain ⟨f, rfl, hcm, hf⟩ := hj.opened [35, 36, 37, 38, 39, 40, 41, 42, 43, 44, 45, 46, 47, 48, 49, 50, 51, 52, 53, 54, 55, 56, 57, 58, 59, 60, 61, 62, 63, 64, 65, 66, 6] (by kernel_rfl)
        replace hcm : Below w4.heap.size w4 w10 := hcm
        have HLast : f 6 = .bool true := hf 32 _ _ rfl rfl (hu 32 (by omega))
        have HBR := Lib.hid hcm
        clear hf hj hr hu hcm
        simp only [List.foldl_cons, List.foldl_nil, List.setIfInBounds_toArray, List.set_cons_zero, List.set_cons_succ]
        rw [HLast]
        clear HLast
        generalize f 35 = g35
        generalize f 36 = g36
        generalize f 37 = g37
        generalize f 38 = g38
        generalize f 39 = g39
        generalize f 40 = g40
        generalize f 41 = g41
        generalize f 42 = g42
        generalize f 43 = g43
        generalize f 44 = g44
        generalize f 45 = g45
        generalize f 46 = g46
        generalize f 47 = g47
        generalize f 48 = g48
        generalize f 49 = g49
        generalize f 50 = g50
        generalize f 51 = g51
        generalize f 52 = g52
        generalize f 53 = g53
        generalize f 54 = g54
        generalize f 55 = g55
        generalize f 56 = g56
        generalize f 57 = g57
        generalize f 58 = g58
        generalize f 59 = g59
        generalize f 60 = g60
        generalize f 61 = g61
        generalize f 62 = g62
        generalize f 63 = g63
        generalize f 64 = g64
        generalize f 65 = g65
        generalize f 66 = g66
        clear f
        go_wp2_with fail
        go_ret
        exact ⟨rfl, HB.out.trans ((HBL4.out.trans (HBR.out.mono HBL4.out.size)).mono HB.out.size)⟩
end Go.Proofs.YtpaoeeamlinaaaaGreatDoor
