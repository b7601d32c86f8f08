/- Journal, walks of the package: Same, fits, Sum.
   Journal, walks of the package: Sum.
   Journal, walks of the package: numbers out of range.
   Journal, memory words: rows of ints of a call's own, that grow. -/
import Derived.Test.YtpaoeeamlinaaaaGreatDoorK04
import Derived.Maps.AppendAt
set_option linter.unusedVariables false
namespace Go.Proofs.YtpaoeeamlinaaaaGreatDoor
open Go.RowKit

theorem start2 (w : World) (A B : Array Value) (t : TypeId) : ∃ W0, W0 = (w.alloc (.cells A t)).alloc (.cells B t) ∧
    Box W0 w.heap.size A t ∧ Box W0 (w.heap.size + 1) B t ∧ w.heap.size + 1 < W0.heap.size ∧ Below w.heap.size w W0 := by
  refine ⟨_, rfl, (Box.new w A t).alloc _, ?_, by simp, ?_⟩
  · have := (Box.new (w.alloc (.cells A t)) B t)
    simpa using this
  · exact ((Below.refl _ w).alloc (Nat.le_refl _) _).alloc (by simp) _
theorem Rec.ext' {a b : Rec} (h1 : a.kind = b.kind) (h2 : a.place = b.place) (h3 : a.id = b.id) (h4 : a.lease = b.lease) (h5 : a.ans = b.ans) (h6 : a.steps = b.steps) (h7 : a.after = b.after) : a = b := by
  cases a; cases b; simp_all

set_option maxRecDepth 100000 in
set_option maxHeartbeats 2000000 in
theorem Same_c (w : World) (v u : Value) (a b : Rec) (h : IsR w v a) (k : IsR w u b) : Calls Tryz.prog 15 #[v, u] w (RetB w (decide (a = b))) := by
  obtain ⟨_, vs, va, rfl, h1, h2⟩ := h
  obtain ⟨_, us, ua, rfl, k1, k2⟩ := k
  obtain ⟨W0, hW, bx, by', hsz, hb0⟩ := start2 w (recV a vs va) (recV b us ua) 29
  have H1 := Lib.hid (h1.after hb0)
  have H2 := Lib.hid (h2.after hb0)
  have K1 := Lib.hid (k1.after hb0)
  have K2 := Lib.hid (k2.after hb0)
  have HB := Lib.hid hb0
  have BX := Lib.hid bx
  have BY := Lib.hid by'
  clear h1 h2 k1 k2 hb0 bx by' hsz
  show Calls _ _ #[.agg #[.int .u8 (a.kind : Int), .int .i64 a.place, .int .i64 a.id, .int .i64 a.lease, .int .u8 (a.ans : Int), vs, va], .agg #[.int .u8 (b.kind : Int), .int .i64 b.place, .int .i64 b.id, .int .i64 b.lease, .int .u8 (b.ans : Int), us, ua]] w _
  have hW' : W0 = (w.alloc (.cells #[.int .u8 (a.kind : Int), .int .i64 a.place, .int .i64 a.id, .int .i64 a.lease, .int .u8 (a.ans : Int), vs, va] 29)).alloc (.cells #[.int .u8 (b.kind : Int), .int .i64 b.place, .int .i64 b.id, .int .i64 b.lease, .int .u8 (b.ans : Int), us, ua] 29) := hW
  clear hW
  have hW := hW'
  clear hW'
  by_cases e_kind : a.kind = b.kind
  rotate_left
  · have HE : Hid (decide (a = b) = false) := decide_eq_false (fun e => e_kind (by rw [e]))
    have q_kind : ((a.kind : Int) == (b.kind : Int)) = false := by rw [beq_eq_false_iff_ne]; omega
    clear e_kind
    have x0 : W0.cell? ⟨w.heap.size, 0, none⟩ = some (.int .u8 (a.kind : Int)) := BX.out.cell 0
    have x1 : W0.cell? ⟨w.heap.size, 1, none⟩ = some (.int .i64 a.place) := BX.out.cell 1
    have x2 : W0.cell? ⟨w.heap.size, 2, none⟩ = some (.int .i64 a.id) := BX.out.cell 2
    have x3 : W0.cell? ⟨w.heap.size, 3, none⟩ = some (.int .i64 a.lease) := BX.out.cell 3
    have x4 : W0.cell? ⟨w.heap.size, 4, none⟩ = some (.int .u8 (a.ans : Int)) := BX.out.cell 4
    have x5 : W0.cell? ⟨w.heap.size, 5, none⟩ = some (vs) := BX.out.cell 5
    have x6 : W0.cell? ⟨w.heap.size, 6, none⟩ = some (va) := BX.out.cell 6
    have y0 : W0.cell? ⟨w.heap.size + 1, 0, none⟩ = some (.int .u8 (b.kind : Int)) := BY.out.cell 0
    have y1 : W0.cell? ⟨w.heap.size + 1, 1, none⟩ = some (.int .i64 b.place) := BY.out.cell 1
    have y2 : W0.cell? ⟨w.heap.size + 1, 2, none⟩ = some (.int .i64 b.id) := BY.out.cell 2
    have y3 : W0.cell? ⟨w.heap.size + 1, 3, none⟩ = some (.int .i64 b.lease) := BY.out.cell 3
    have y4 : W0.cell? ⟨w.heap.size + 1, 4, none⟩ = some (.int .u8 (b.ans : Int)) := BY.out.cell 4
    have y5 : W0.cell? ⟨w.heap.size + 1, 5, none⟩ = some (us) := BY.out.cell 5
    have y6 : W0.cell? ⟨w.heap.size + 1, 6, none⟩ = some (ua) := BY.out.cell 6
    have lx := (BX.out).lt
    have ly := (BY.out).lt
    go_enter Tryz.func15, Tryz.ntmps15
    go_upto_region 1 with fail
    rw [← hW]
    clear hW
    go_wp2_with fail
    go_ret
    rw [HE.out]
    exact ⟨rfl, HB.out⟩
  by_cases e_place : a.place = b.place
  rotate_left
  · have HE : Hid (decide (a = b) = false) := decide_eq_false (fun e => e_place (by rw [e]))
    have q_kind : ((a.kind : Int) == (b.kind : Int)) = true := by rw [beq_iff_eq]; omega
    have q_place : (a.place == b.place) = false := by rw [beq_eq_false_iff_ne]; omega
    clear e_kind e_place
    have x0 : W0.cell? ⟨w.heap.size, 0, none⟩ = some (.int .u8 (a.kind : Int)) := BX.out.cell 0
    have x1 : W0.cell? ⟨w.heap.size, 1, none⟩ = some (.int .i64 a.place) := BX.out.cell 1
    have x2 : W0.cell? ⟨w.heap.size, 2, none⟩ = some (.int .i64 a.id) := BX.out.cell 2
    have x3 : W0.cell? ⟨w.heap.size, 3, none⟩ = some (.int .i64 a.lease) := BX.out.cell 3
    have x4 : W0.cell? ⟨w.heap.size, 4, none⟩ = some (.int .u8 (a.ans : Int)) := BX.out.cell 4
    have x5 : W0.cell? ⟨w.heap.size, 5, none⟩ = some (vs) := BX.out.cell 5
    have x6 : W0.cell? ⟨w.heap.size, 6, none⟩ = some (va) := BX.out.cell 6
    have y0 : W0.cell? ⟨w.heap.size + 1, 0, none⟩ = some (.int .u8 (b.kind : Int)) := BY.out.cell 0
    have y1 : W0.cell? ⟨w.heap.size + 1, 1, none⟩ = some (.int .i64 b.place) := BY.out.cell 1
    have y2 : W0.cell? ⟨w.heap.size + 1, 2, none⟩ = some (.int .i64 b.id) := BY.out.cell 2
    have y3 : W0.cell? ⟨w.heap.size + 1, 3, none⟩ = some (.int .i64 b.lease) := BY.out.cell 3
    have y4 : W0.cell? ⟨w.heap.size + 1, 4, none⟩ = some (.int .u8 (b.ans : Int)) := BY.out.cell 4
    have y5 : W0.cell? ⟨w.heap.size + 1, 5, none⟩ = some (us) := BY.out.cell 5
    have y6 : W0.cell? ⟨w.heap.size + 1, 6, none⟩ = some (ua) := BY.out.cell 6
    have lx := (BX.out).lt
    have ly := (BY.out).lt
    go_enter Tryz.func15, Tryz.ntmps15
    go_upto_region 1 with fail
    rw [← hW]
    clear hW
    go_wp2_with fail
    go_ret
    rw [HE.out]
    exact ⟨rfl, HB.out⟩
  by_cases e_id : a.id = b.id
  rotate_left
  · have HE : Hid (decide (a = b) = false) := decide_eq_false (fun e => e_id (by rw [e]))
    have q_kind : ((a.kind : Int) == (b.kind : Int)) = true := by rw [beq_iff_eq]; omega
    have q_place : (a.place == b.place) = true := by rw [beq_iff_eq]; omega
    have q_id : (a.id == b.id) = false := by rw [beq_eq_false_iff_ne]; omega
    clear e_kind e_place e_id
    have x0 : W0.cell? ⟨w.heap.size, 0, none⟩ = some (.int .u8 (a.kind : Int)) := BX.out.cell 0
    have x1 : W0.cell? ⟨w.heap.size, 1, none⟩ = some (.int .i64 a.place) := BX.out.cell 1
    have x2 : W0.cell? ⟨w.heap.size, 2, none⟩ = some (.int .i64 a.id) := BX.out.cell 2
    have x3 : W0.cell? ⟨w.heap.size, 3, none⟩ = some (.int .i64 a.lease) := BX.out.cell 3
    have x4 : W0.cell? ⟨w.heap.size, 4, none⟩ = some (.int .u8 (a.ans : Int)) := BX.out.cell 4
    have x5 : W0.cell? ⟨w.heap.size, 5, none⟩ = some (vs) := BX.out.cell 5
    have x6 : W0.cell? ⟨w.heap.size, 6, none⟩ = some (va) := BX.out.cell 6
    have y0 : W0.cell? ⟨w.heap.size + 1, 0, none⟩ = some (.int .u8 (b.kind : Int)) := BY.out.cell 0
    have y1 : W0.cell? ⟨w.heap.size + 1, 1, none⟩ = some (.int .i64 b.place) := BY.out.cell 1
    have y2 : W0.cell? ⟨w.heap.size + 1, 2, none⟩ = some (.int .i64 b.id) := BY.out.cell 2
    have y3 : W0.cell? ⟨w.heap.size + 1, 3, none⟩ = some (.int .i64 b.lease) := BY.out.cell 3
    have y4 : W0.cell? ⟨w.heap.size + 1, 4, none⟩ = some (.int .u8 (b.ans : Int)) := BY.out.cell 4
    have y5 : W0.cell? ⟨w.heap.size + 1, 5, none⟩ = some (us) := BY.out.cell 5
    have y6 : W0.cell? ⟨w.heap.size + 1, 6, none⟩ = some (ua) := BY.out.cell 6
    have lx := (BX.out).lt
    have ly := (BY.out).lt
    go_enter Tryz.func15, Tryz.ntmps15
    go_upto_region 1 with fail
    rw [← hW]
    clear hW
    go_wp2_with fail
    go_ret
    rw [HE.out]
    exact ⟨rfl, HB.out⟩
  by_cases e_lease : a.lease = b.lease
  rotate_left
  · have HE : Hid (decide (a = b) = false) := decide_eq_false (fun e => e_lease (by rw [e]))
    have q_kind : ((a.kind : Int) == (b.kind : Int)) = true := by rw [beq_iff_eq]; omega
    have q_place : (a.place == b.place) = true := by rw [beq_iff_eq]; omega
    have q_id : (a.id == b.id) = true := by rw [beq_iff_eq]; omega
    have q_lease : (a.lease == b.lease) = false := by rw [beq_eq_false_iff_ne]; omega
    clear e_kind e_place e_id e_lease
    have x0 : W0.cell? ⟨w.heap.size, 0, none⟩ = some (.int .u8 (a.kind : Int)) := BX.out.cell 0
    have x1 : W0.cell? ⟨w.heap.size, 1, none⟩ = some (.int .i64 a.place) := BX.out.cell 1
    have x2 : W0.cell? ⟨w.heap.size, 2, none⟩ = some (.int .i64 a.id) := BX.out.cell 2
    have x3 : W0.cell? ⟨w.heap.size, 3, none⟩ = some (.int .i64 a.lease) := BX.out.cell 3
    have x4 : W0.cell? ⟨w.heap.size, 4, none⟩ = some (.int .u8 (a.ans : Int)) := BX.out.cell 4
    have x5 : W0.cell? ⟨w.heap.size, 5, none⟩ = some (vs) := BX.out.cell 5
    have x6 : W0.cell? ⟨w.heap.size, 6, none⟩ = some (va) := BX.out.cell 6
    have y0 : W0.cell? ⟨w.heap.size + 1, 0, none⟩ = some (.int .u8 (b.kind : Int)) := BY.out.cell 0
    have y1 : W0.cell? ⟨w.heap.size + 1, 1, none⟩ = some (.int .i64 b.place) := BY.out.cell 1
    have y2 : W0.cell? ⟨w.heap.size + 1, 2, none⟩ = some (.int .i64 b.id) := BY.out.cell 2
    have y3 : W0.cell? ⟨w.heap.size + 1, 3, none⟩ = some (.int .i64 b.lease) := BY.out.cell 3
    have y4 : W0.cell? ⟨w.heap.size + 1, 4, none⟩ = some (.int .u8 (b.ans : Int)) := BY.out.cell 4
    have y5 : W0.cell? ⟨w.heap.size + 1, 5, none⟩ = some (us) := BY.out.cell 5
    have y6 : W0.cell? ⟨w.heap.size + 1, 6, none⟩ = some (ua) := BY.out.cell 6
    have lx := (BX.out).lt
    have ly := (BY.out).lt
    go_enter Tryz.func15, Tryz.ntmps15
    go_upto_region 1 with fail
    rw [← hW]
    clear hW
    go_wp2_with fail
    go_ret
    rw [HE.out]
    exact ⟨rfl, HB.out⟩
  by_cases e_ans : a.ans = b.ans
  rotate_left
  · have HE : Hid (decide (a = b) = false) := decide_eq_false (fun e => e_ans (by rw [e]))
    have q_kind : ((a.kind : Int) == (b.kind : Int)) = true := by rw [beq_iff_eq]; omega
    have q_place : (a.place == b.place) = true := by rw [beq_iff_eq]; omega
    have q_id : (a.id == b.id) = true := by rw [beq_iff_eq]; omega
    have q_lease : (a.lease == b.lease) = true := by rw [beq_iff_eq]; omega
    have q_ans : ((a.ans : Int) == (b.ans : Int)) = false := by rw [beq_eq_false_iff_ne]; omega
    clear e_kind e_place e_id e_lease e_ans
    have x0 : W0.cell? ⟨w.heap.size, 0, none⟩ = some (.int .u8 (a.kind : Int)) := BX.out.cell 0
    have x1 : W0.cell? ⟨w.heap.size, 1, none⟩ = some (.int .i64 a.place) := BX.out.cell 1
    have x2 : W0.cell? ⟨w.heap.size, 2, none⟩ = some (.int .i64 a.id) := BX.out.cell 2
    have x3 : W0.cell? ⟨w.heap.size, 3, none⟩ = some (.int .i64 a.lease) := BX.out.cell 3
    have x4 : W0.cell? ⟨w.heap.size, 4, none⟩ = some (.int .u8 (a.ans : Int)) := BX.out.cell 4
    have x5 : W0.cell? ⟨w.heap.size, 5, none⟩ = some (vs) := BX.out.cell 5
    have x6 : W0.cell? ⟨w.heap.size, 6, none⟩ = some (va) := BX.out.cell 6
    have y0 : W0.cell? ⟨w.heap.size + 1, 0, none⟩ = some (.int .u8 (b.kind : Int)) := BY.out.cell 0
    have y1 : W0.cell? ⟨w.heap.size + 1, 1, none⟩ = some (.int .i64 b.place) := BY.out.cell 1
    have y2 : W0.cell? ⟨w.heap.size + 1, 2, none⟩ = some (.int .i64 b.id) := BY.out.cell 2
    have y3 : W0.cell? ⟨w.heap.size + 1, 3, none⟩ = some (.int .i64 b.lease) := BY.out.cell 3
    have y4 : W0.cell? ⟨w.heap.size + 1, 4, none⟩ = some (.int .u8 (b.ans : Int)) := BY.out.cell 4
    have y5 : W0.cell? ⟨w.heap.size + 1, 5, none⟩ = some (us) := BY.out.cell 5
    have y6 : W0.cell? ⟨w.heap.size + 1, 6, none⟩ = some (ua) := BY.out.cell 6
    have lx := (BX.out).lt
    have ly := (BY.out).lt
    go_enter Tryz.func15, Tryz.ntmps15
    go_upto_region 1 with fail
    rw [← hW]
    clear hW
    go_wp2_with fail
    go_ret
    rw [HE.out]
    exact ⟨rfl, HB.out⟩
  have HF := Lib.hid (And.intro e_kind (And.intro e_place (And.intro e_id (And.intro e_lease e_ans))))
  have q_kind : ((a.kind : Int) == (b.kind : Int)) = true := by rw [beq_iff_eq]; omega
  have q_place : (a.place == b.place) = true := by rw [beq_iff_eq]; omega
  have q_id : (a.id == b.id) = true := by rw [beq_iff_eq]; omega
  have q_lease : (a.lease == b.lease) = true := by rw [beq_iff_eq]; omega
  have q_ans : ((a.ans : Int) == (b.ans : Int)) = true := by rw [beq_iff_eq]; omega
  clear e_kind e_place e_id e_lease e_ans
  have x0 : W0.cell? ⟨w.heap.size, 0, none⟩ = some (.int .u8 (a.kind : Int)) := BX.out.cell 0
  have x1 : W0.cell? ⟨w.heap.size, 1, none⟩ = some (.int .i64 a.place) := BX.out.cell 1
  have x2 : W0.cell? ⟨w.heap.size, 2, none⟩ = some (.int .i64 a.id) := BX.out.cell 2
  have x3 : W0.cell? ⟨w.heap.size, 3, none⟩ = some (.int .i64 a.lease) := BX.out.cell 3
  have x4 : W0.cell? ⟨w.heap.size, 4, none⟩ = some (.int .u8 (a.ans : Int)) := BX.out.cell 4
  have x5 : W0.cell? ⟨w.heap.size, 5, none⟩ = some (vs) := BX.out.cell 5
  have x6 : W0.cell? ⟨w.heap.size, 6, none⟩ = some (va) := BX.out.cell 6
  have y0 : W0.cell? ⟨w.heap.size + 1, 0, none⟩ = some (.int .u8 (b.kind : Int)) := BY.out.cell 0
  have y1 : W0.cell? ⟨w.heap.size + 1, 1, none⟩ = some (.int .i64 b.place) := BY.out.cell 1
  have y2 : W0.cell? ⟨w.heap.size + 1, 2, none⟩ = some (.int .i64 b.id) := BY.out.cell 2
  have y3 : W0.cell? ⟨w.heap.size + 1, 3, none⟩ = some (.int .i64 b.lease) := BY.out.cell 3
  have y4 : W0.cell? ⟨w.heap.size + 1, 4, none⟩ = some (.int .u8 (b.ans : Int)) := BY.out.cell 4
  have y5 : W0.cell? ⟨w.heap.size + 1, 5, none⟩ = some (us) := BY.out.cell 5
  have y6 : W0.cell? ⟨w.heap.size + 1, 6, none⟩ = some (ua) := BY.out.cell 6
  have lx := (BX.out).lt
  have ly := (BY.out).lt
  go_enter Tryz.func15, Tryz.ntmps15
  go_upto_region 1 with fail
  rw [← hW]
  clear hW
  go_wp2_with fail
  refine (equalS_c _ _ _ _ _ H1.out K1.out).mono ?_
  rintro e w1 ⟨rfl, hb1⟩
  clear x0 y0 x1 y1 x2 y2 x3 y3 x4 y4 x5 y5 x6 y6 lx ly
  have BX1 := Lib.hid (BX.out.after hb1)
  have BY1 := Lib.hid (BY.out.after hb1)
  have H3 := Lib.hid (H2.out.after hb1)
  have K3 := Lib.hid (K2.out.after hb1)
  have HB1 := Lib.hid (HB.out.trans (hb1.mono HB.out.size))
  clear hb1 BX BY H1 H2 K1 K2 HB
  by_cases es : a.steps = b.steps
  · rw [decide_eq_true es]
    have ES := Lib.hid es
    clear es
    have x0 : w1.cell? ⟨w.heap.size, 0, none⟩ = some (.int .u8 (a.kind : Int)) := BX1.out.cell 0
    have x1 : w1.cell? ⟨w.heap.size, 1, none⟩ = some (.int .i64 a.place) := BX1.out.cell 1
    have x2 : w1.cell? ⟨w.heap.size, 2, none⟩ = some (.int .i64 a.id) := BX1.out.cell 2
    have x3 : w1.cell? ⟨w.heap.size, 3, none⟩ = some (.int .i64 a.lease) := BX1.out.cell 3
    have x4 : w1.cell? ⟨w.heap.size, 4, none⟩ = some (.int .u8 (a.ans : Int)) := BX1.out.cell 4
    have x5 : w1.cell? ⟨w.heap.size, 5, none⟩ = some (vs) := BX1.out.cell 5
    have x6 : w1.cell? ⟨w.heap.size, 6, none⟩ = some (va) := BX1.out.cell 6
    have y0 : w1.cell? ⟨w.heap.size + 1, 0, none⟩ = some (.int .u8 (b.kind : Int)) := BY1.out.cell 0
    have y1 : w1.cell? ⟨w.heap.size + 1, 1, none⟩ = some (.int .i64 b.place) := BY1.out.cell 1
    have y2 : w1.cell? ⟨w.heap.size + 1, 2, none⟩ = some (.int .i64 b.id) := BY1.out.cell 2
    have y3 : w1.cell? ⟨w.heap.size + 1, 3, none⟩ = some (.int .i64 b.lease) := BY1.out.cell 3
    have y4 : w1.cell? ⟨w.heap.size + 1, 4, none⟩ = some (.int .u8 (b.ans : Int)) := BY1.out.cell 4
    have y5 : w1.cell? ⟨w.heap.size + 1, 5, none⟩ = some (us) := BY1.out.cell 5
    have y6 : w1.cell? ⟨w.heap.size + 1, 6, none⟩ = some (ua) := BY1.out.cell 6
    have lx := (BX1.out).lt
    have ly := (BY1.out).lt
    go_wp2_with fail
    refine (equalL_c _ _ _ _ _ H3.out K3.out).mono ?_
    rintro e w2 ⟨rfl, hb2⟩
    have HB2 := Lib.hid (HB1.out.trans (hb2.mono HB1.out.size))
    clear hb2 x0 x1 x2 x3 x4 x5 x6 y0 y1 y2 y3 y4 y5 y6 lx ly
    have HE : Hid (decide (a = b) = decide (a.after = b.after)) := by
      show _ = _
      rw [decide_eq_decide]
      exact ⟨fun e => by rw [e], fun e => Rec.ext' HF.out.1 HF.out.2.1 HF.out.2.2.1 HF.out.2.2.2.1 HF.out.2.2.2.2 ES.out e⟩
    go_wp2_with fail
    go_ret
    rw [HE.out]
    exact ⟨rfl, HB2.out⟩
  · rw [decide_eq_false es]
    have HE : Hid (decide (a = b) = false) := decide_eq_false (fun e => es (by rw [e]))
    clear es
    have x0 : w1.cell? ⟨w.heap.size, 0, none⟩ = some (.int .u8 (a.kind : Int)) := BX1.out.cell 0
    have x1 : w1.cell? ⟨w.heap.size, 1, none⟩ = some (.int .i64 a.place) := BX1.out.cell 1
    have x2 : w1.cell? ⟨w.heap.size, 2, none⟩ = some (.int .i64 a.id) := BX1.out.cell 2
    have x3 : w1.cell? ⟨w.heap.size, 3, none⟩ = some (.int .i64 a.lease) := BX1.out.cell 3
    have x4 : w1.cell? ⟨w.heap.size, 4, none⟩ = some (.int .u8 (a.ans : Int)) := BX1.out.cell 4
    have x5 : w1.cell? ⟨w.heap.size, 5, none⟩ = some (vs) := BX1.out.cell 5
    have x6 : w1.cell? ⟨w.heap.size, 6, none⟩ = some (va) := BX1.out.cell 6
    have y0 : w1.cell? ⟨w.heap.size + 1, 0, none⟩ = some (.int .u8 (b.kind : Int)) := BY1.out.cell 0
    have y1 : w1.cell? ⟨w.heap.size + 1, 1, none⟩ = some (.int .i64 b.place) := BY1.out.cell 1
    have y2 : w1.cell? ⟨w.heap.size + 1, 2, none⟩ = some (.int .i64 b.id) := BY1.out.cell 2
    have y3 : w1.cell? ⟨w.heap.size + 1, 3, none⟩ = some (.int .i64 b.lease) := BY1.out.cell 3
    have y4 : w1.cell? ⟨w.heap.size + 1, 4, none⟩ = some (.int .u8 (b.ans : Int)) := BY1.out.cell 4
    have y5 : w1.cell? ⟨w.heap.size + 1, 5, none⟩ = some (us) := BY1.out.cell 5
    have y6 : w1.cell? ⟨w.heap.size + 1, 6, none⟩ = some (ua) := BY1.out.cell 6
    have lx := (BX1.out).lt
    have ly := (BY1.out).lt
    go_wp2_with fail
    go_ret
    rw [HE.out]
    exact ⟨rfl, HB1.out⟩

set_option maxRecDepth 100000 in
set_option maxHeartbeats 2000000 in
theorem fits1_c (w : World) (v : Value) (l : List Int) (h : SlI w v l) : Calls Tryz.prog 40 #[v] w (RetB w (decide (12 < l.length))) := by
  obtain ⟨p, c, rfl, h1, h2, _⟩ := h.2.shape
  clear h
  by_cases hl : 12 < l.length
  · have q1 : decide ((12 : Int) < (l.length : Int)) = true := decide_eq_true (by omega)
    have HE : Hid (decide (12 < l.length) = true) := decide_eq_true hl
    go_enter Tryz.func40, Tryz.ntmps40
    go_wp2_with fail
    go_ret
    rw [HE.out]
    exact ⟨rfl, Below.refl _ _⟩
  · have q1 : decide ((12 : Int) < (l.length : Int)) = false := decide_eq_false (by omega)
    have HE : Hid (decide (12 < l.length) = false) := decide_eq_false hl
    go_enter Tryz.func40, Tryz.ntmps40
    go_wp2_with fail
    go_ret
    rw [HE.out]
    exact ⟨rfl, Below.refl _ _⟩

set_option maxRecDepth 100000 in
set_option maxHeartbeats 2000000 in
theorem indexL_c (w : World) (v : Value) (l : List (List Int)) (h : SlL w v l) :
    Calls Tryz.prog 56 #[v, .func (.func 40) #[] #[]] w fun e w' => ∃ z : Int, e = .returned (.int .i64 z) ∧ (decide (0 ≤ z) = decide (∃ a ∈ l, 12 < a.length)) ∧ Below w.heap.size w w' := by
  obtain ⟨u, hA, hA2⟩ := h
  obtain ⟨p, c, rfl, h1, h2, _⟩ := hA.shape
  have H := Lib.hid hA
  have H2 := Lib.hid hA2
  clear hA hA2
  go_enter Tryz.func56, Tryz.ntmps56
  go_wp2_with fail
  go_loopg [8] l.length (fun g t wx => ∃ i : Nat, i ≤ l.length ∧ g = l.length - i ∧ t = .int .i64 (i : Int) ∧ Hid (∀ j, j < i → ¬ 12 < (l.getD j []).length) ∧ Hid (Below w.heap.size w wx))
  case atStart => exact ⟨0, Nat.zero_le _, rfl, rfl, fun j hj => absurd hj (by omega), Below.refl _ _⟩
  case round =>
    obtain ⟨i, hi, rfl, rfl, heq, hbl⟩ := hrel
    by_cases hlt : i < l.length
    · obtain ⟨ba, oa, ca, ea, _, _, la, hca⟩ := (H.out.after hbl.out).at_ (by omega)
      injection ea with ea _ ec
      subst ea ec
      have x0 : wr.cell? ⟨ba, oa + i, none⟩ = some (u i) := by have := hca i hlt 0 (by omega); simpa using this
      have HX := Lib.hid ((H2.out i hlt).after hbl.out)
      clear hca
      have il : (i : Int) < (l.length : Int) := by omega
      have i0 : (0 : Int) ≤ (i : Int) := by omega
      go_wp2_with fail
      refine (fits1_c _ _ _ HX.out).mono ?_
      rintro e w1 ⟨rfl, hb1⟩
      replace hbl := Lib.hid (hbl.out.trans (hb1.mono hbl.out.size))
      clear hb1 x0
      by_cases he : 12 < (l.getD i []).length
      · rw [decide_eq_true he]
        have HE : Hid (decide (∃ a ∈ l, 12 < a.length) = true) := decide_eq_true ⟨l.getD i [], by rw [List.getD_eq_getElem?_getD, List.getElem?_eq_getElem hlt]; exact List.getElem_mem hlt, he⟩
        clear he heq
        go_wp2_with fail
        go_ret
        exact ⟨_, rfl, by rw [HE.out]; exact decide_eq_true (by omega), hbl.out⟩
      · rw [decide_eq_false he]
        have HE := Lib.hid he
        clear he
        go_wp2_with fail
        go_roundg (l.length - (i + 1))
        case measure => omega
        case rel =>
          refine ⟨i + 1, by omega, rfl, by go_num, fun j hj => ?_, hbl.out⟩
          rcases Nat.lt_or_ge j i with h | h
          · exact heq.out j h
          · obtain rfl : j = i := by omega
            exact HE.out
    · obtain rfl : i = l.length := by omega
      have HE : Hid (decide (∃ a ∈ l, 12 < a.length) = false) := by
        refine decide_eq_false ?_
        rintro ⟨a, ha, hl⟩
        obtain ⟨j, hj, rfl⟩ := List.getElem_of_mem ha
        refine heq.out j hj ?_
        rw [List.getD_eq_getElem?_getD, List.getElem?_eq_getElem hj]
        exact hl
      go_wp2_with fail
      go_ret
      exact ⟨_, rfl, by rw [HE.out]; rfl, hbl.out⟩

set_option maxRecDepth 100000 in
set_option maxHeartbeats 2000000 in
theorem containsL_c (w : World) (v : Value) (l : List (List Int)) (h : SlL w v l) :
    Calls Tryz.prog 41 #[v, .func (.func 40) #[] #[]] w (RetB w (decide (∃ a ∈ l, 12 < a.length))) := by
  go_enter Tryz.func41, Tryz.ntmps41
  go_wp2_with fail
  refine (indexL_c _ _ _ h).mono ?_
  rintro e w1 ⟨z, rfl, hz, hb⟩
  have HB := Lib.hid hb
  have HZ := Lib.hid hz
  clear hb
  go_wp2_with fail
  go_ret
  exact ⟨by first | rfl | exact ret_bool HZ.out, HB.out⟩

/-- A plan that is not too long. -/
def Fits (ss : List Stp) (ls : List (List Int)) : Prop := ss.length ≤ 12 ∧ ls.length = ss.length ∧ ¬ ∃ a ∈ ls, 12 < a.length
instance (ss : List Stp) (ls : List (List Int)) : Decidable (Fits ss ls) := by unfold Fits; infer_instance
set_option maxRecDepth 100000 in
set_option maxHeartbeats 2000000 in
theorem fits_c (w : World) (vs va : Value) (ss : List Stp) (ls : List (List Int)) (h : SlS w vs ss) (k : SlL w va ls) :
    Calls Tryz.prog 24 #[.agg #[vs, va]] w (RetB w (decide (Fits ss ls))) := by
  obtain ⟨p, c, rfl, h1, h2, _⟩ := h.2.shape
  obtain ⟨q, d, rfl, k1, k2, _⟩ : ∃ a cap, va = .slice a ls.length cap ∧ ls.length ≤ cap ∧ cap ≤ 9223372036854775807 ∧ (a = none → cap = 0) := by
    obtain ⟨_, k1, _⟩ := k
    exact k1.shape
  obtain ⟨W0, hW⟩ : ∃ W0, W0 = w.alloc (.cells #[.slice p ss.length c, .slice q ls.length d] 27) := ⟨_, rfl⟩
  have hb0 : Below w.heap.size w W0 := hW ▸ held_alloc (Below.refl _ w)
  have bx : Box W0 w.heap.size #[.slice p ss.length c, .slice q ls.length d] 27 := hW ▸ Box.new w _ _
  have x0 : W0.cell? ⟨w.heap.size, 0, none⟩ = some (.slice p ss.length c) := bx.cell 0
  have x1 : W0.cell? ⟨w.heap.size, 1, none⟩ = some (.slice q ls.length d) := bx.cell 1
  have lx := bx.lt
  have K := Lib.hid (k.after hb0)
  have HB := Lib.hid hb0
  clear h k hb0 bx
  by_cases e1 : ss.length ≤ 12
  · have q1 : decide ((ss.length : Int) ≤ 12) = true := decide_eq_true (by omega)
    have q1' : decide (ss.length ≤ 12) = true := decide_eq_true e1
    by_cases e2 : ls.length = ss.length
    · have q2 : ((ls.length : Int) == (ss.length : Int)) = true := by rw [beq_iff_eq]; omega
      have HF : Hid (decide (Fits ss ls) = !(decide (∃ a ∈ ls, 12 < a.length))) := by
        show _ = _
        by_cases e3 : ∃ a ∈ ls, 12 < a.length
        · rw [decide_eq_true e3, decide_eq_false (fun h => h.2.2 e3)]; rfl
        · rw [decide_eq_false e3, decide_eq_true ⟨e1, e2, e3⟩]; rfl
      obtain ⟨z, hz⟩ : ∃ z, decide (∃ a ∈ ls, 12 < a.length) = z := ⟨_, rfl⟩
      have HZ := Lib.hid hz
      clear e1 e2 hz
      go_enter Tryz.func24, Tryz.ntmps24
      go_upto_region 1 with fail
      rw [← hW]
      clear hW
      go_wp2_with fail
      refine (containsL_c _ _ _ K.out).mono ?_
      rintro e w1 ⟨rfl, hb1⟩
      rw [HZ.out]
      rw [HZ.out] at HF
      have HB1 := Lib.hid (HB.out.trans (hb1.mono HB.out.size))
      clear hb1 x0 x1 lx
      go_wp2_with fail
      go_ret
      rw [HF.out]
      exact ⟨rfl, HB1.out⟩
    · have q2 : ((ls.length : Int) == (ss.length : Int)) = false := by rw [beq_eq_false_iff_ne]; omega
      have HF : Hid (decide (Fits ss ls) = false) := decide_eq_false (fun h => e2 h.2.1)
      clear e1 e2
      go_enter Tryz.func24, Tryz.ntmps24
      go_upto_region 1 with fail
      rw [← hW]
      clear hW
      go_wp2_with fail
      go_ret
      rw [HF.out]
      exact ⟨rfl, HB.out⟩
  · have q1 : decide ((ss.length : Int) ≤ 12) = false := decide_eq_false (by omega)
    have q1' : decide (ss.length ≤ 12) = false := decide_eq_false e1
    have HF : Hid (decide (Fits ss ls) = false) := decide_eq_false (fun h => e1 h.1)
    clear e1
    go_enter Tryz.func24, Tryz.ntmps24
    go_upto_region 1 with fail
    rw [← hW]
    clear hW
    go_wp2_with fail
    go_ret
    rw [HF.out]
    exact ⟨rfl, HB.out⟩

end Go.Proofs.YtpaoeeamlinaaaaGreatDoor

namespace Go.Proofs.YtpaoeeamlinaaaaGreatDoor
open Go.RowKit

/-- '[]byte(s)': a row of the bytes. -/
theorem bytes_of (w : World) (s : List UInt8) : ∃ W1 C, (convert 9 48 (.string (bs s))).run Tryz.prog w = .ok (.slice (some ⟨w.heap.size, 0, none⟩) s.length C) W1 ∧ w.heap.size < W1.heap.size ∧ Below w.heap.size w W1 ∧
    ∀ i (hi : i < s.length), W1.cell? ⟨w.heap.size, i, none⟩ = some (.int .u8 ((s[i]).toNat : Int)) := by
  refine ⟨_, _, run_bytes_of_string w 9 48 5 (bs s) Tryz.underlying9 Tryz.underlying48 Tryz.underlying5, by simp, (below_dr (Below.refl _ _)).alloc (Nat.le_refl _) _, fun i hi => ?_⟩
  have h := heap_alloc_new w.drew (.cells (bytesRow (bs s) (grownCap w (bs s).size 0 5)) 5 ((bytesRow (bs s) (grownCap w (bs s).size 0 5)).size, (bytesRow (bs s) (grownCap w (bs s).size 0 5)).size + 1))
  have h2 := cell_of_row _ w.heap.size i _ _ _ h
  rw [h2]
  unfold bytesRow
  rw [Array.getElem?_append_left (by simpa [bs] using hi)]
  simp [bs, hi]
theorem sumGo_step : ∀ (l : List UInt8) (k i n : Nat) (hi : k < l.length), sumGo i n (l.drop k) = sumGo (i + 1) ((n + (i + 1) % 9973 * (l[k]).toNat) % 9973) (l.drop (k + 1)) := fun l k i n hi => by
  rw [List.drop_eq_getElem_cons hi]
  rfl
set_option maxRecDepth 100000 in
set_option maxHeartbeats 2000000 in
theorem Sum_c (w : World) (s : List UInt8) (hs : s.length ≤ 1000000) : Calls Tryz.prog 13 #[.string (bs s)] w fun e w' => e = .returned (.int .i64 (sumT s : Int)) ∧ Below w.heap.size w w' := by
  obtain ⟨W1, C, hcv, hlt, hb, hc⟩ := bytes_of w s
  have HB := Lib.hid hb
  have HC := Lib.hid hc
  have HLT := Lib.hid hlt
  clear hb hc hlt
  obtain ⟨S, hS⟩ : ∃ S, sumT s = S := ⟨_, rfl⟩
  rw [hS]
  have h0 : Hid (sumGo 0 0 (s.drop 0) = S) := hS
  clear hS
  go_enter Tryz.func13, Tryz.ntmps13
  go_wp2_with fail
  go_loopg [3, 9] s.length (fun g t3 t9 wx => ∃ i n : Nat, i ≤ s.length ∧ n < 9973 ∧ g = s.length - i ∧ t3 = .int .i64 (n : Int) ∧ t9 = .int .i64 (i : Int) ∧ Hid (sumGo i n (s.drop i) = S) ∧ wx = W1)
  case atStart => exact ⟨0, 0, Nat.zero_le _, by decide, rfl, rfl, rfl, h0, rfl⟩
  case round =>
    obtain ⟨i, n, hi, hn, rfl, rfl, rfl, hsum, rfl⟩ := hrel
    by_cases hlt : i < s.length
    · have x0 := HC.out i hlt
      have l0 := HLT.out
      obtain ⟨c, hcc⟩ : ∃ c, (s[i]).toNat = c := ⟨_, rfl⟩
      have hc256 : c < 256 := by rw [← hcc]; exact (s[i]).toNat_lt
      have hst := sumGo_step s i i n hlt
      rw [hcc] at x0 hst
      rw [hsum.out] at hst
      have HS := Lib.hid hst
      clear hst hcc
      have il : (i : Int) < (s.length : Int) := by omega
      have i0 : (0 : Int) ≤ (i : Int) := by omega
      have b1 : (i + 1) % 9973 * c ≤ 9973 * 256 := Nat.mul_le_mul (Nat.le_of_lt (Nat.mod_lt _ (by decide))) (Nat.le_of_lt hc256)
      have em : ((i : Int) + 1) % 9973 * (c : Int) = (((i + 1) % 9973 * c : Nat) : Int) := by push_cast; rfl
      obtain ⟨m, hm⟩ : ∃ m, (i + 1) % 9973 * c = m := ⟨_, rfl⟩
      rw [hm] at em b1
      have HM := Lib.hid hm
      clear hm
      go_wp2_with fail
      go_roundg (s.length - (i + 1))
      case measure => omega
      case rel =>
        refine ⟨i + 1, (n + m) % 9973, by omega, Nat.mod_lt _ (by decide), rfl, ?_, by go_num, ?_, rfl⟩
        · first | rfl | go_num | (push_cast; rfl)
        · show sumGo (i + 1) ((n + m) % 9973) (s.drop (i + 1)) = S
          rw [← HM.out]; exact HS.out.symm
    · obtain rfl : i = s.length := by omega
      have hd : Hid (n = S) := by
        have := hsum.out
        rw [List.drop_length] at this
        exact this
      have il : ¬ ((s.length : Int) < (s.length : Int)) := by omega
      go_wp2_with fail
      go_ret
      rw [← hd.out]
      exact ⟨rfl, HB.out⟩
end Go.Proofs.YtpaoeeamlinaaaaGreatDoor

namespace Go.Proofs.YtpaoeeamlinaaaaGreatDoor
open Go.RowKit

set_option maxRecDepth 100000 in
set_option maxHeartbeats 2000000 in
theorem wrong_c (w : World) (z : Int) : Calls Tryz.prog 26 #[.int .i64 z] w (RetB w (decide (¬ InR z))) := by
  obtain ⟨B, hB⟩ : ∃ B, decide (¬ InR z) = B := ⟨_, rfl⟩
  rw [hB]
  by_cases h0 : z < 0
  · have q0 : decide (z < 0) = true := decide_eq_true h0
    have HE : Hid (B = true) := by show _ = _; rw [← hB]; exact decide_eq_true (fun h => by unfold InR at h; omega)
    clear hB
    go_enter Tryz.func26, Tryz.ntmps26
    go_wp2_with fail
    go_ret
    rw [HE.out]
    exact ⟨rfl, Below.refl _ _⟩
  · have q0 : decide (z < 0) = false := decide_eq_false h0
    by_cases h1 : 1000000 < z
    · have q1 : decide (1000000 < z) = true := decide_eq_true h1
      have HE : Hid (B = true) := by show _ = _; rw [← hB]; exact decide_eq_true (fun h => by unfold InR at h; omega)
      clear hB
      go_enter Tryz.func26, Tryz.ntmps26
      go_wp2_with fail
      go_ret
      rw [HE.out]
      exact ⟨rfl, Below.refl _ _⟩
    · have q1 : decide (1000000 < z) = false := decide_eq_false h1
      have HE : Hid (B = false) := by show _ = _; rw [← hB]; exact decide_eq_false (fun h => h ⟨by omega, by omega⟩)
      clear hB
      go_enter Tryz.func26, Tryz.ntmps26
      go_wp2_with fail
      go_ret
      rw [HE.out]
      exact ⟨rfl, Below.refl _ _⟩
set_option maxRecDepth 100000 in
set_option maxHeartbeats 2000000 in
theorem indexI_c (w : World) (v : Value) (l : List Int) (h : SlI w v l) :
    Calls Tryz.prog 43 #[v, .func (.func 26) #[] #[]] w fun e w' => ∃ z : Int, e = .returned (.int .i64 z) ∧ (decide (0 ≤ z) = decide (¬ ∀ a ∈ l, InR a)) ∧ Below w.heap.size w w' := by
  obtain ⟨p, c, rfl, h1, h2, _⟩ := h.2.shape
  have H := Lib.hid h.2
  clear h
  go_enter Tryz.func43, Tryz.ntmps43
  go_wp2_with fail
  go_loopg [8] l.length (fun g t wx => ∃ i : Nat, i ≤ l.length ∧ g = l.length - i ∧ t = .int .i64 (i : Int) ∧ Hid (∀ j, j < i → InR (l.getD j 0)) ∧ Hid (Below w.heap.size w wx))
  case atStart => exact ⟨0, Nat.zero_le _, rfl, rfl, fun j hj => absurd hj (by omega), Below.refl _ _⟩
  case round =>
    obtain ⟨i, hi, rfl, rfl, heq, hbl⟩ := hrel
    by_cases hlt : i < l.length
    · obtain ⟨ba, oa, ca, ea, _, _, la, hca⟩ := (H.out.after hbl.out).at_ (by omega)
      injection ea with ea _ ec
      subst ea ec
      have x0 : wr.cell? ⟨ba, oa + i, none⟩ = some (.int .i64 (l.getD i 0)) := by have := hca i hlt 0 (by omega); simpa using this
      clear hca
      have il : (i : Int) < (l.length : Int) := by omega
      have i0 : (0 : Int) ≤ (i : Int) := by omega
      obtain ⟨z, hz⟩ : ∃ z, l.getD i 0 = z := ⟨_, rfl⟩
      rw [hz] at x0
      have HZ := Lib.hid hz
      clear hz
      go_wp2_with fail
      refine (wrong_c _ z).mono ?_
      rintro e w1 ⟨rfl, hb1⟩
      replace hbl := Lib.hid (hbl.out.trans (hb1.mono hbl.out.size))
      clear hb1 x0
      by_cases he : InR z
      · rw [decide_eq_false (fun h => h he)]
        have HE := Lib.hid he
        clear he
        go_wp2_with fail
        go_roundg (l.length - (i + 1))
        case measure => omega
        case rel =>
          refine ⟨i + 1, by omega, rfl, by go_num, fun j hj => ?_, hbl.out⟩
          rcases Nat.lt_or_ge j i with h | h
          · exact heq.out j h
          · obtain rfl : j = i := by omega
            rw [HZ.out]; exact HE.out
      · rw [decide_eq_true he]
        have HE : Hid (decide (¬ ∀ a ∈ l, InR a) = true) := decide_eq_true (fun h => he (by
          have := h (l.getD i 0) (by rw [List.getD_eq_getElem?_getD, List.getElem?_eq_getElem hlt]; exact List.getElem_mem hlt)
          rw [HZ.out] at this; exact this))
        clear he heq
        go_wp2_with fail
        go_ret
        exact ⟨_, rfl, by rw [HE.out]; exact decide_eq_true (by omega), hbl.out⟩
    · obtain rfl : i = l.length := by omega
      have HE : Hid (decide (¬ ∀ a ∈ l, InR a) = false) := by
        refine decide_eq_false (fun h => h ?_)
        intro a ha
        obtain ⟨j, hj, rfl⟩ := List.getElem_of_mem ha
        have := heq.out j hj
        rw [List.getD_eq_getElem?_getD, List.getElem?_eq_getElem hj] at this
        exact this
      go_wp2_with fail
      go_ret
      exact ⟨_, rfl, by rw [HE.out]; rfl, hbl.out⟩
set_option maxRecDepth 100000 in
set_option maxHeartbeats 2000000 in
theorem containsI_c (w : World) (v : Value) (l : List Int) (h : SlI w v l) :
    Calls Tryz.prog 27 #[v, .func (.func 26) #[] #[]] w (RetB w (decide (¬ ∀ a ∈ l, InR a))) := by
  go_enter Tryz.func27, Tryz.ntmps27
  go_wp2_with fail
  refine (indexI_c _ _ _ h).mono ?_
  rintro e w1 ⟨z, rfl, hz, hb⟩
  have HB := Lib.hid hb
  have HZ := Lib.hid hz
  clear hb
  go_wp2_with fail
  go_ret
  exact ⟨ret_bool (by rw [decide_eq_decide]; simp), HB.out⟩
end Go.Proofs.YtpaoeeamlinaaaaGreatDoor

namespace Go.Proofs.YtpaoeeamlinaaaaGreatDoor
open Go.RowKit

theorem infoInt : (Tryz.prog.info? 3).map (fun i => (i.zero, i.size, i.bytes)) = some (some (.int .i64 0), 1, 8) := by kernel_rfl
/-- A row of ints from block base on, of the call's own. -/
def OwnI (w : World) (base : Nat) (v : Value) (l : List Int) : Prop := (∀ z ∈ l, In64 z) ∧ w.ownsRow base 3 1 v l.length (l.map (Value.int .i64))
section
variable {w w' : World} {base : Nat} {v : Value} {l : List Int}
theorem OwnI.nil (w : World) (base : Nat) : OwnI w base (.slice none 0 0) [] := ⟨by simp, World.ownsRow_nil _ _ _ _⟩
theorem OwnI.sl (h : OwnI w base v l) : SlI w v l := by
  obtain ⟨h0, h1, h2⟩ := h
  refine ⟨h0, ?_⟩
  rcases h2 with ⟨rfl, e⟩ | ⟨g, cap, cur, rfl, hge, hg, h3, h4, h5, h6⟩
  · have : l = [] := List.length_eq_zero_iff.1 e
    subst this
    exact (SlI.nil w).2
  · refine ⟨some ⟨g, 0, none⟩, cap, rfl, h3, by simpa [maxLen] using h4, (fun h => by cases h), fun _ => ⟨g, 0, rfl, (Array.getElem?_eq_some_iff.1 hg).1, fun i hi j hj => ?_⟩⟩
    obtain rfl : j = 0 := by omega
    have hc := cell_of_row w g (0 + i * 1 + 0) cur _ (0, 0) hg
    rw [hc, ← Array.getElem?_toList]
    have h7 : (cur.toList.take (l.length * 1))[i]? = (l.map (Value.int .i64))[i]? := by rw [h6]
    rw [List.getElem?_take, if_pos (by omega)] at h7
    rw [show 0 + i * 1 + 0 = i by omega, h7, List.getElem?_map, List.getElem?_eq_getElem hi]
    show _ = some (Value.int .i64 (l.getD i 0))
    rw [List.getD_eq_getElem?_getD, List.getElem?_eq_getElem hi]
    rfl
theorem OwnI.after (h : OwnI w base v l) (hb : Below w.heap.size w w') : OwnI w' base v l :=
  ⟨h.1, h.2.kept (row := none) ⟨hb.os, hb.tape, hb.output, hb.size, fun k hk _ => hb.block k hk⟩ (by cases hv : v.ownBlock <;> simp)⟩
theorem OwnI.alloc (h : OwnI w base v l) (o : Obj) : OwnI (w.alloc o) base v l := ⟨h.1, h.2.alloc _⟩
theorem OwnI.one (w : World) {base : Nat} (hb : base ≤ w.heap.size) {z : Int} (hz : In64 z) : OwnI (w.alloc (.cells #[.int .i64 z] 3)) base (.slice (some ⟨w.heap.size, 0, none⟩) 1 1) [z] :=
  ⟨by simpa using hz, rfl, .inr ⟨w.heap.size, 1, #[.int .i64 z], rfl, hb, heap_alloc_new w _, Nat.le_refl _, by simp [maxLen], rfl, rfl⟩⟩
theorem SlI.one (w : World) {z : Int} (hz : In64 z) : SlI (w.alloc (.cells #[.int .i64 z] 3)) (.slice (some ⟨w.heap.size, 0, none⟩) 1 1) [z] := (OwnI.one w (Nat.zero_le _) hz).sl
theorem SlI.four (w : World) {a b c d : Int} (ha : In64 a) (hb : In64 b) (hc : In64 c) (hd : In64 d) : SlI (w.alloc (.cells #[.int .i64 a, .int .i64 b, .int .i64 c, .int .i64 d] 3)) (.slice (some ⟨w.heap.size, 0, none⟩) 4 4) [a, b, c, d] :=
  OwnI.sl (base := 0) ⟨by simp [ha, hb, hc, hd], rfl, .inr ⟨w.heap.size, 4, #[.int .i64 a, .int .i64 b, .int .i64 c, .int .i64 d], rfl, Nat.zero_le _, heap_alloc_new w _, Nat.le_refl _, by simp [maxLen], rfl, rfl⟩⟩
theorem OwnI.shape (h : OwnI w base v l) : ∃ p c, v = .slice p l.length c ∧ l.length ≤ c := by
  obtain ⟨p, c, h1, h2, _⟩ := h.sl.2.shape
  exact ⟨p, c, h1, h2⟩
theorem SlI.news {ad : Addr} {n cap : Nat} (h : SlI w (.slice (some ad) n cap) l) : ∀ j u, (l.map (Value.int .i64))[j]? = some u → w.cell? (ad.add j) = some u := by
  obtain ⟨_, a', cap', h1, h2, h3, h4, h5⟩ := h
  intro j u hu
  have hj : j < l.length := by
    rcases Nat.lt_or_ge j l.length with hj | hj
    · exact hj
    · rw [List.getElem?_eq_none (by simpa using hj)] at hu; cases hu
  obtain ⟨b, off, ha, hlt, hc⟩ := h5 (by omega)
  obtain ⟨rfl, _, _⟩ : some ad = a' ∧ n = l.length ∧ cap = cap' := by injection h1 with e1 e2 e3; exact ⟨e1, e2, e3⟩
  obtain rfl : ad = ⟨b, off, none⟩ := by injection ha
  have hadd : (⟨b, off, none⟩ : Addr).add j = ⟨b, off + j, none⟩ := by unfold Addr.add; split <;> simp_all
  have : w.cell? ⟨b, off + j * 1 + 0, none⟩ = some (.int .i64 (l.getD j 0)) := hc j hj 0 (by omega)
  rw [hadd, ← hu, List.getElem?_map, List.getElem?_eq_getElem hj]
  rw [show off + j * 1 + 0 = off + j by omega, List.getD_eq_getElem?_getD, List.getElem?_eq_getElem hj] at this
  exact this
end
/-- append(l, m...) of a row of the call's own and whatever slice. -/
theorem run_appI (w : World) (base : Nat) (ty : TypeId) (v u : Value) (l m : List Int) (hown : OwnI w base v l) (hm : SlI w u m) (hl : l.length + m.length ≤ 1000000) (hbase : base ≤ w.heap.size) :
    ∃ v' w', (Builtin.append_ #[54, 54] ty #[v, u]).run Tryz.prog w = .ok v' w' ∧ OwnI w' base v' (l ++ m) ∧ Below base w w' := by
  obtain ⟨i0, hi, hz0, hz1, hz2⟩ := info_parts infoInt
  have hin : ∀ z ∈ l ++ m, In64 z := fun z hz => (List.mem_append.1 hz).elim (hown.1 z) (hm.1 z)
  obtain ⟨p, cap, rfl, h2, h3, h5⟩ := hm.2.shape
  rcases p with _ | ad
  · have hz := h5 rfl
    have hl0 : m = [] := List.length_eq_zero_iff.1 (by omega)
    subst hl0; subst hz
    obtain ⟨q, c, rfl, hc⟩ := hown.shape
    have hc' : l.length + 0 ≤ c := by omega
    refine ⟨_, w, ?_, by simpa using hown, Below.refl _ w⟩
    simp [Builtin.append_, run_underlying Tryz.underlying54, hi, sizeOf, typeInfo, Builtin.lenOf, Builtin.firstCells, hc]
    cases q <;> rfl
  · obtain ⟨v', w', hr, q1, q2, _, _⟩ := run_append_own_at (P := Tryz.prog) w base 54 ty 3 i0 (.int .i64 0) 1 8 Tryz.underlying54 hi hz0 hz1 hz2 rfl (by decide) v l.length _ hown.2 ad m.length cap (m.map (Value.int .i64)) (by simp) hm.news (fun u hu => by obtain ⟨x, _, rfl⟩ := List.mem_map.1 hu; rfl) (by have : maxLen = 9223372036854775807 := rfl; omega) (by omega) hbase
    exact ⟨v', w', hr, ⟨hin, by simpa using q1⟩, (Below.refl _ w).grown q2 hbase (fun k hk => (hown.2.lt k hk).1)⟩
theorem wpList_appI {w : World} {ops : Array Oper} {rest : List Oper} {o : Oper} {a : Act} {Q : Exit → Act → World → Prop} (hgd : o.guard = none) (s x : Operand)
    (ho : o.op = .call { callee := .builtin .append, args := #[s, x], argTypes := #[54, 54] })
    (base : Nat) (v u : Value) (l m : List Int) (hs : a.eval s = v) (hown : OwnI w base v l) (hx : a.eval x = u) (hm : SlI w u m) (hl : l.length + m.length ≤ 1000000) (hbase : base ≤ w.heap.size)
    (h : ∀ v' w', OwnI w' base v' (l ++ m) → Below base w w' → wpList Tryz.prog ops Q rest (a.put o.dst v') w') :
    wpList Tryz.prog ops Q (o :: rest) a w := by
  refine wpList_plain hgd fun K hK => ?_
  obtain ⟨v', w', hr, h2, h3⟩ := run_appI w base o.type v u l m hown hm hl hbase
  unfold Oper.wp execOp
  simp only [ho, resolve, invoke, builtin, Sem.run_bind, Sem.run_pure, Result.andThen_ok, List.map_toArray, List.map_cons, List.map_nil, hs, hx, hr]
  exact hK _ _ (h v' w' h2 h3)
end Go.Proofs.YtpaoeeamlinaaaaGreatDoor
