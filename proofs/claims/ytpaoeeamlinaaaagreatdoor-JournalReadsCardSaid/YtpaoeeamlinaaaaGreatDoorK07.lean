/- Journal, walks of the package: numbers. -/
import Derived.Test.YtpaoeeamlinaaaaGreatDoorK06
set_option linter.unusedVariables false
namespace Go.Proofs.YtpaoeeamlinaaaaGreatDoor
open Go.RowKit

/-- The record that has nothing but what its kind writes. -/
def bareR (r : Rec) : Rec := match r.kind with
  | 1 => ⟨r.kind, 0, 0, 0, 0, r.steps, r.after⟩
  | 2 => ⟨r.kind, r.place, r.id, r.lease, 0, [], []⟩
  | 3 => ⟨r.kind, 0, r.id, 0, r.ans, [], []⟩
  | _ => ⟨r.kind, 0, 0, 0, 0, [], []⟩
def RetNum (w : World) (r : Rec) (e : Ending) (w' : World) : Prop := ∃ vl vr, e = .returned (.tuple #[vl, vr]) ∧ SlI w' vl (numsOf r) ∧ IsR w' vr (bareR r) ∧ Below w.heap.size w w'
def zeroV : Array Value := #[.int .u8 0, .int .i64 0, .int .i64 0, .int .i64 0, .int .u8 0, .slice none 0 0, .slice none 0 0]

set_option maxRecDepth 100000 in
set_option maxHeartbeats 2000000 in
theorem numbers3_c (w : World) (v : Value) (r : Rec) (h : IsR w v r) (hs : r.steps.length ≤ 12) (ha : r.after.length ≤ 12) (hls : ∀ a ∈ r.after, a.length ≤ 12) (hk : r.kind = 3) :
    Calls Tryz.prog 25 #[v] w (RetNum w r) := by
  obtain ⟨hok, vs, va, rfl, h1, h2⟩ := h
  obtain ⟨W0, hW, bx, by', hsz, hb0⟩ := start2 w (recV r vs va) zeroV 29
  have H1 := Lib.hid (h1.after hb0)
  have H2 := Lib.hid (h2.after hb0)
  have HS1 := Lib.hid h1
  have HS2 := Lib.hid h2
  have HB := Lib.hid hb0
  have BX := Lib.hid bx
  have BY := Lib.hid by'
  have HOK := Lib.hid hok
  have HS := Lib.hid hs
  have HA := Lib.hid ha
  have HLS := Lib.hid hls
  have x0 : W0.cell? ⟨w.heap.size, 0, none⟩ = some (.int .u8 (r.kind : Int)) := bx.cell 0
  have x1 : W0.cell? ⟨w.heap.size, 1, none⟩ = some (.int .i64 r.place) := bx.cell 1
  have x2 : W0.cell? ⟨w.heap.size, 2, none⟩ = some (.int .i64 r.id) := bx.cell 2
  have x3 : W0.cell? ⟨w.heap.size, 3, none⟩ = some (.int .i64 r.lease) := bx.cell 3
  have x4 : W0.cell? ⟨w.heap.size, 4, none⟩ = some (.int .u8 (r.ans : Int)) := bx.cell 4
  have x5 : W0.cell? ⟨w.heap.size, 5, none⟩ = some vs := bx.cell 5
  have x6 : W0.cell? ⟨w.heap.size, 6, none⟩ = some va := bx.cell 6
  have lx := bx.lt
  have ly := by'.lt
  have hW' : W0 = (w.alloc (.cells #[.int .u8 (r.kind : Int), .int .i64 r.place, .int .i64 r.id, .int .i64 r.lease, .int .u8 (r.ans : Int), vs, va] 29)).alloc (.cells #[.int .u8 0, .int .i64 0, .int .i64 0, .int .i64 0, .int .u8 0, .slice none 0 0, .slice none 0 0] 29) := hW
  have HN : Hid (w.heap.size ≤ W0.heap.size) := by show _ ≤ _; omega
  obtain ⟨N2, hN2⟩ : ∃ N2, w.heap.size + 2 = N2 := ⟨_, rfl⟩
  have HN2 : Hid (w.heap.size + 1 < N2) := by show _ < _; omega
  have HN3 : Hid (N2 ≤ W0.heap.size) := by show _ ≤ _; omega
  clear hW hN2 hsz
  have hW := hW'
  clear hW' h1 h2 hb0 bx by' hok hls hs ha
  show Calls _ _ #[.agg #[.int .u8 (r.kind : Int), .int .i64 r.place, .int .i64 r.id, .int .i64 r.lease, .int .u8 (r.ans : Int), vs, va]] w _
  have q1 : ((r.kind : Int) == 1) = false := by rw [beq_eq_false_iff_ne]; omega
  have q2 : ((r.kind : Int) == 2) = false := by rw [beq_eq_false_iff_ne]; omega
  have q3 : ((r.kind : Int) == 3) = true := by rw [beq_iff_eq]; omega
  have EN : Hid (numsOf r = [r.id, (r.ans : Int)]) := by show _ = _; unfold numsOf; simp only [hk]
  have EB : Hid (bareR r = ⟨r.kind, 0, r.id, 0, r.ans, [], []⟩) := by show _ = _; unfold bareR; simp only [hk]
  clear hk
  go_enter Tryz.func25, Tryz.ntmps25
  go_upto_region 1 with fail
  rw [← hW]
  clear hW
  go_upto_region 7 with fail
  refine wp_region_gj (J := GJ _ (fun _ => SJ N2 (fun κ => match κ with | 0 => .eq (.pointer (some ⟨w.heap.size, 2, none⟩)) | 1 => .eq (.int .i64 r.id) | 2 => .eq (.pointer (some ⟨w.heap.size, 4, none⟩)) | 3 => .eq (.int .u8 (r.ans : Int)) | 4 => .eq (.int .i64 (r.ans : Int)) | 5 => .own ([r.id, (r.ans : Int)]) | 6 => .eq (.pointer (some ⟨w.heap.size, 0, none⟩)) | 7 => .eq (.int .u8 (r.kind : Int)) | 8 => .eq (.pointer (some ⟨w.heap.size, 2, none⟩)) | 9 => .eq (.int .i64 r.id) | 10 => .eq (.pointer (some ⟨w.heap.size, 4, none⟩)) | 11 => .eq (.int .u8 (r.ans : Int)) | 12 => .eq (.agg #[.int .u8 (r.kind : Int), .int .i64 0, .int .i64 r.id, .int .i64 0, .int .u8 (r.ans : Int), .slice none 0 0, .slice none 0 0]) | 13 => .own ([r.id, (r.ans : Int)]) | _ => .any)) (CJ W0 14 w.heap.size (w.heap.size + 1) #[.int .u8 (r.kind : Int), .int .i64 0, .int .i64 r.id, .int .i64 0, .int .u8 (r.ans : Int), .slice none 0 0, .slice none 0 0] 29) _) (by kernel_rfl) ?_ ?_ (GJ.start CJ.start)
  · intro listed a w9 i hr hj
    obtain ⟨hi12, hun, _, _, _⟩ := ready_mem hr
    have h12 : i ∈ List.range 15 := List.mem_range.2 hi12
    simp only [List.range, List.range.loop, List.mem_cons, List.not_mem_nil, or_false] at h12
    obtain ⟨f, rfl, hcm, hf⟩ := hj.opened [36, 37, 38, 39, 40, 41, 42, 43, 44, 45, 46, 47, 48, 2] (by kernel_rfl)
    replace hcm : CJ W0 14 w.heap.size (w.heap.size + 1) #[.int .u8 (r.kind : Int), .int .i64 0, .int .i64 r.id, .int .i64 0, .int .u8 (r.ans : Int), .slice none 0 0, .slice none 0 0] 29 listed f w9 := hcm
    rcases h12 with rfl | rfl | rfl | rfl | rfl | rfl | rfl | rfl | rfl | rfl | rfl | rfl | rfl | rfl | rfl
    · have nO : ¬ up listed 14 := fun h => not_up hun (hj.closed 14 0 h (by kernel_rfl))
      have bw := hcm.1 nO
      have klt := Nat.lt_of_lt_of_le lx bw.size
      refine GJ.op hj (by kernel_rfl) hr rfl [36, 37, 38, 39, 40, 41, 42, 43, 44, 45, 46, 47, 48, 2] (by kernel_rfl) (fun K hK => ?_)
      simp only [Act.put, List.foldl_cons, List.foldl_nil, List.setIfInBounds_toArray, List.set_cons_zero, List.set_cons_succ] at hK ⊢
      clear hj hf
      go_simp
      exact hK _ _ (fun k v _ _ h => h.keep (Below.refl _ _)) (fun t ht => SJ.of (.eq (.pointer (some ⟨w.heap.size, 2, none⟩))) rfl rfl) (hcm.keep (Below.refl _ _) (by omega) HN.out)
    · have nO : ¬ up listed 14 := fun h => not_up hun (hj.closed 14 1 h (by kernel_rfl))
      have bw := hcm.1 nO
      have e1 : f 36 = .pointer (some ⟨w.heap.size, 2, none⟩) := hf 0 _ _ rfl rfl (up_dep hr (by kernel_rfl))
      have kx := keep_cell bw x2
      have klt := Nat.lt_of_lt_of_le lx bw.size
      refine GJ.op hj (by kernel_rfl) hr rfl [36, 37, 38, 39, 40, 41, 42, 43, 44, 45, 46, 47, 48, 2] (by kernel_rfl) (fun K hK => ?_)
      simp only [Act.put, List.foldl_cons, List.foldl_nil, List.setIfInBounds_toArray, List.set_cons_zero, List.set_cons_succ] at hK ⊢
      clear hj hf
      rw [e1] at hK ⊢
      clear e1
      go_simp
      exact hK _ _ (fun k v _ _ h => h.keep (Below.refl _ _)) (fun t ht => SJ.of (.eq (.int .i64 r.id)) rfl rfl) (hcm.keep (Below.refl _ _) (by omega) HN.out)
    · have nO : ¬ up listed 14 := fun h => not_up hun (hj.closed 14 2 h (by kernel_rfl))
      have bw := hcm.1 nO
      have klt := Nat.lt_of_lt_of_le lx bw.size
      refine GJ.op hj (by kernel_rfl) hr rfl [36, 37, 38, 39, 40, 41, 42, 43, 44, 45, 46, 47, 48, 2] (by kernel_rfl) (fun K hK => ?_)
      simp only [Act.put, List.foldl_cons, List.foldl_nil, List.setIfInBounds_toArray, List.set_cons_zero, List.set_cons_succ] at hK ⊢
      clear hj hf
      go_simp
      exact hK _ _ (fun k v _ _ h => h.keep (Below.refl _ _)) (fun t ht => SJ.of (.eq (.pointer (some ⟨w.heap.size, 4, none⟩))) rfl rfl) (hcm.keep (Below.refl _ _) (by omega) HN.out)
    · have nO : ¬ up listed 14 := fun h => not_up hun (hj.closed 14 3 h (by kernel_rfl))
      have bw := hcm.1 nO
      have e1 : f 38 = .pointer (some ⟨w.heap.size, 4, none⟩) := hf 2 _ _ rfl rfl (up_dep hr (by kernel_rfl))
      have kx := keep_cell bw x4
      have klt := Nat.lt_of_lt_of_le lx bw.size
      refine GJ.op hj (by kernel_rfl) hr rfl [36, 37, 38, 39, 40, 41, 42, 43, 44, 45, 46, 47, 48, 2] (by kernel_rfl) (fun K hK => ?_)
      simp only [Act.put, List.foldl_cons, List.foldl_nil, List.setIfInBounds_toArray, List.set_cons_zero, List.set_cons_succ] at hK ⊢
      clear hj hf
      rw [e1] at hK ⊢
      clear e1
      go_simp
      exact hK _ _ (fun k v _ _ h => h.keep (Below.refl _ _)) (fun t ht => SJ.of (.eq (.int .u8 (r.ans : Int))) rfl rfl) (hcm.keep (Below.refl _ _) (by omega) HN.out)
    · have nO : ¬ up listed 14 := fun h => not_up hun (hj.closed 14 4 h (by kernel_rfl))
      have bw := hcm.1 nO
      have e1 : f 39 = .int .u8 (r.ans : Int) := hf 3 _ _ rfl rfl (up_dep hr (by kernel_rfl))
      have hwr : IntKind.i64.wrap (r.ans : Int) = (r.ans : Int) := by have := HOK.out.2.2.2.2; exact wrap_in (by omega) (by omega)
      refine GJ.op hj (by kernel_rfl) hr rfl [36, 37, 38, 39, 40, 41, 42, 43, 44, 45, 46, 47, 48, 2] (by kernel_rfl) (fun K hK => ?_)
      simp only [Act.put, List.foldl_cons, List.foldl_nil, List.setIfInBounds_toArray, List.set_cons_zero, List.set_cons_succ] at hK ⊢
      clear hj hf
      rw [e1] at hK ⊢
      clear e1
      go_simp
      exact hK _ _ (fun k v _ _ h => h.keep (Below.refl _ _)) (fun t ht => SJ.of (.eq (.int .i64 (r.ans : Int))) rfl rfl) (hcm.keep (Below.refl _ _) (by omega) HN.out)
    · have nO : ¬ up listed 14 := fun h => not_up hun (hj.closed 14 5 h (by kernel_rfl))
      have bw := hcm.1 nO
      have e1 : f 37 = .int .i64 r.id := hf 1 _ _ rfl rfl (up_dep hr (by kernel_rfl))
      have e2 : f 40 = .int .i64 (r.ans : Int) := hf 4 _ _ rfl rfl (up_dep hr (by kernel_rfl))
      obtain ⟨_, _, hid64, _, hans⟩ := HOK.out
      have hbz := Nat.le_trans HN3.out bw.size
      have HOW := Lib.hid (OwnI.two w9 hbz hid64 (b := (r.ans : Int)) (by constructor <;> omega))
      clear hid64 hbz
      refine GJ.op hj (by kernel_rfl) hr rfl [36, 37, 38, 39, 40, 41, 42, 43, 44, 45, 46, 47, 48, 2] (by kernel_rfl) (fun K hK => ?_)
      simp only [Act.put, List.foldl_cons, List.foldl_nil, List.setIfInBounds_toArray, List.set_cons_zero, List.set_cons_succ] at hK ⊢
      clear hj hf
      rw [e1, e2] at hK ⊢
      clear e1 e2
      go_simp
      exact hK _ _ (fun k v _ _ h => h.keep (held_alloc (Below.refl _ _))) (fun t ht => SJ.of (.own [r.id, (r.ans : Int)]) rfl HOW.out) (hcm.keep (held_alloc (Below.refl _ _)) (by omega) HN.out)
    · have nO : ¬ up listed 14 := fun h => not_up hun (hj.closed 14 6 h (by kernel_rfl))
      have bw := hcm.1 nO
      have klt := Nat.lt_of_lt_of_le lx bw.size
      refine GJ.op hj (by kernel_rfl) hr rfl [36, 37, 38, 39, 40, 41, 42, 43, 44, 45, 46, 47, 48, 2] (by kernel_rfl) (fun K hK => ?_)
      simp only [Act.put, List.foldl_cons, List.foldl_nil, List.setIfInBounds_toArray, List.set_cons_zero, List.set_cons_succ] at hK ⊢
      clear hj hf
      go_simp
      exact hK _ _ (fun k v _ _ h => h.keep (Below.refl _ _)) (fun t ht => SJ.of (.eq (.pointer (some ⟨w.heap.size, 0, none⟩))) rfl rfl) (hcm.keep (Below.refl _ _) (by omega) HN.out)
    · have nO : ¬ up listed 14 := fun h => not_up hun (hj.closed 14 7 h (by kernel_rfl))
      have bw := hcm.1 nO
      have e1 : f 42 = .pointer (some ⟨w.heap.size, 0, none⟩) := hf 6 _ _ rfl rfl (up_dep hr (by kernel_rfl))
      have kx := keep_cell bw x0
      have klt := Nat.lt_of_lt_of_le lx bw.size
      refine GJ.op hj (by kernel_rfl) hr rfl [36, 37, 38, 39, 40, 41, 42, 43, 44, 45, 46, 47, 48, 2] (by kernel_rfl) (fun K hK => ?_)
      simp only [Act.put, List.foldl_cons, List.foldl_nil, List.setIfInBounds_toArray, List.set_cons_zero, List.set_cons_succ] at hK ⊢
      clear hj hf
      rw [e1] at hK ⊢
      clear e1
      go_simp
      exact hK _ _ (fun k v _ _ h => h.keep (Below.refl _ _)) (fun t ht => SJ.of (.eq (.int .u8 (r.kind : Int))) rfl rfl) (hcm.keep (Below.refl _ _) (by omega) HN.out)
    · have nO : ¬ up listed 14 := fun h => not_up hun (hj.closed 14 8 h (by kernel_rfl))
      have bw := hcm.1 nO
      have klt := Nat.lt_of_lt_of_le lx bw.size
      refine GJ.op hj (by kernel_rfl) hr rfl [36, 37, 38, 39, 40, 41, 42, 43, 44, 45, 46, 47, 48, 2] (by kernel_rfl) (fun K hK => ?_)
      simp only [Act.put, List.foldl_cons, List.foldl_nil, List.setIfInBounds_toArray, List.set_cons_zero, List.set_cons_succ] at hK ⊢
      clear hj hf
      go_simp
      exact hK _ _ (fun k v _ _ h => h.keep (Below.refl _ _)) (fun t ht => SJ.of (.eq (.pointer (some ⟨w.heap.size, 2, none⟩))) rfl rfl) (hcm.keep (Below.refl _ _) (by omega) HN.out)
    · have nO : ¬ up listed 14 := fun h => not_up hun (hj.closed 14 9 h (by kernel_rfl))
      have bw := hcm.1 nO
      have e1 : f 44 = .pointer (some ⟨w.heap.size, 2, none⟩) := hf 8 _ _ rfl rfl (up_dep hr (by kernel_rfl))
      have kx := keep_cell bw x2
      have klt := Nat.lt_of_lt_of_le lx bw.size
      refine GJ.op hj (by kernel_rfl) hr rfl [36, 37, 38, 39, 40, 41, 42, 43, 44, 45, 46, 47, 48, 2] (by kernel_rfl) (fun K hK => ?_)
      simp only [Act.put, List.foldl_cons, List.foldl_nil, List.setIfInBounds_toArray, List.set_cons_zero, List.set_cons_succ] at hK ⊢
      clear hj hf
      rw [e1] at hK ⊢
      clear e1
      go_simp
      exact hK _ _ (fun k v _ _ h => h.keep (Below.refl _ _)) (fun t ht => SJ.of (.eq (.int .i64 r.id)) rfl rfl) (hcm.keep (Below.refl _ _) (by omega) HN.out)
    · have nO : ¬ up listed 14 := fun h => not_up hun (hj.closed 14 10 h (by kernel_rfl))
      have bw := hcm.1 nO
      have klt := Nat.lt_of_lt_of_le lx bw.size
      refine GJ.op hj (by kernel_rfl) hr rfl [36, 37, 38, 39, 40, 41, 42, 43, 44, 45, 46, 47, 48, 2] (by kernel_rfl) (fun K hK => ?_)
      simp only [Act.put, List.foldl_cons, List.foldl_nil, List.setIfInBounds_toArray, List.set_cons_zero, List.set_cons_succ] at hK ⊢
      clear hj hf
      go_simp
      exact hK _ _ (fun k v _ _ h => h.keep (Below.refl _ _)) (fun t ht => SJ.of (.eq (.pointer (some ⟨w.heap.size, 4, none⟩))) rfl rfl) (hcm.keep (Below.refl _ _) (by omega) HN.out)
    · have nO : ¬ up listed 14 := fun h => not_up hun (hj.closed 14 11 h (by kernel_rfl))
      have bw := hcm.1 nO
      have e1 : f 46 = .pointer (some ⟨w.heap.size, 4, none⟩) := hf 10 _ _ rfl rfl (up_dep hr (by kernel_rfl))
      have kx := keep_cell bw x4
      have klt := Nat.lt_of_lt_of_le lx bw.size
      refine GJ.op hj (by kernel_rfl) hr rfl [36, 37, 38, 39, 40, 41, 42, 43, 44, 45, 46, 47, 48, 2] (by kernel_rfl) (fun K hK => ?_)
      simp only [Act.put, List.foldl_cons, List.foldl_nil, List.setIfInBounds_toArray, List.set_cons_zero, List.set_cons_succ] at hK ⊢
      clear hj hf
      rw [e1] at hK ⊢
      clear e1
      go_simp
      exact hK _ _ (fun k v _ _ h => h.keep (Below.refl _ _)) (fun t ht => SJ.of (.eq (.int .u8 (r.ans : Int))) rfl rfl) (hcm.keep (Below.refl _ _) (by omega) HN.out)
    · have nO : ¬ up listed 14 := fun h => not_up hun (hj.closed 14 12 h (by kernel_rfl))
      have bw := hcm.1 nO
      have e1 : f 43 = .int .u8 (r.kind : Int) := hf 7 _ _ rfl rfl (up_dep hr (by kernel_rfl))
      have e2 : f 45 = .int .i64 r.id := hf 9 _ _ rfl rfl (up_dep hr (by kernel_rfl))
      have e3 : f 47 = .int .u8 (r.ans : Int) := hf 11 _ _ rfl rfl (up_dep hr (by kernel_rfl))
      refine GJ.op hj (by kernel_rfl) hr rfl [36, 37, 38, 39, 40, 41, 42, 43, 44, 45, 46, 47, 48, 2] (by kernel_rfl) (fun K hK => ?_)
      simp only [Act.put, List.foldl_cons, List.foldl_nil, List.setIfInBounds_toArray, List.set_cons_zero, List.set_cons_succ] at hK ⊢
      clear hj hf
      rw [e1, e2, e3] at hK ⊢
      clear e1 e2 e3
      go_simp
      exact hK _ _ (fun k v _ _ h => h.keep (Below.refl _ _)) (fun t ht => SJ.of (.eq (.agg #[.int .u8 (r.kind : Int), .int .i64 0, .int .i64 r.id, .int .i64 0, .int .u8 (r.ans : Int), .slice none 0 0, .slice none 0 0])) rfl rfl) (hcm.keep (Below.refl _ _) (by omega) HN.out)
    · have nO : ¬ up listed 14 := fun h => not_up hun (hj.closed 14 13 h (by kernel_rfl))
      have bw := hcm.1 nO
      have s1 : OwnI w9 N2 (f 41) ([r.id, (r.ans : Int)]) := hf 5 _ _ rfl rfl (up_dep hr (by kernel_rfl))
      refine GJ.op hj (by kernel_rfl) hr rfl [36, 37, 38, 39, 40, 41, 42, 43, 44, 45, 46, 47, 48, 2] (by kernel_rfl) (fun K hK => ?_)
      simp only [Act.put, List.foldl_cons, List.foldl_nil, List.setIfInBounds_toArray, List.set_cons_zero, List.set_cons_succ] at hK ⊢
      clear hj hf
      go_simp
      exact hK _ _ (fun k v _ _ h => h.keep (Below.refl _ _)) (fun t ht => SJ.of (.own ([r.id, (r.ans : Int)])) rfl s1) (hcm.keep (Below.refl _ _) (by omega) HN.out)
    · have nO := not_up hun
      have bw := hcm.1 nO
      have bxw := BY.out.after bw
      have e1 : f 48 = .agg #[.int .u8 (r.kind : Int), .int .i64 0, .int .i64 r.id, .int .i64 0, .int .u8 (r.ans : Int), .slice none 0 0, .slice none 0 0] := hf 12 _ _ rfl rfl (up_dep hr (by kernel_rfl))
      have hsz7 := hj.lsize
      have hlt : 14 < listed.size := by rw [hsz7]; decide
      refine GJ.op hj (by kernel_rfl) hr rfl [36, 37, 38, 39, 40, 41, 42, 43, 44, 45, 46, 47, 48, 2] (by kernel_rfl) (fun K hK => ?_)
      simp only [Act.put, List.foldl_cons, List.foldl_nil, List.setIfInBounds_toArray, List.set_cons_zero, List.set_cons_succ] at hK ⊢
      clear hj hf
      rw [e1] at hK ⊢
      clear e1
      have g0 := bxw.frozen 0
      have g1 := bxw.frozen 1
      have g2 := bxw.frozen 2
      have g3 := bxw.frozen 3
      have g4 := bxw.frozen 4
      have g5 := bxw.frozen 5
      have g6 := bxw.frozen 6
      have y0 : w9.cell? ⟨w.heap.size + 1, 0, none⟩ = some (.int .u8 0) := bxw.cell 0
      have y1 : w9.cell? ⟨w.heap.size + 1, 1, none⟩ = some (.int .i64 0) := bxw.cell 1
      have y2 : w9.cell? ⟨w.heap.size + 1, 2, none⟩ = some (.int .i64 0) := bxw.cell 2
      have y3 : w9.cell? ⟨w.heap.size + 1, 3, none⟩ = some (.int .i64 0) := bxw.cell 3
      have y4 : w9.cell? ⟨w.heap.size + 1, 4, none⟩ = some (.int .u8 0) := bxw.cell 4
      have y5 : w9.cell? ⟨w.heap.size + 1, 5, none⟩ = some (.slice none 0 0) := bxw.cell 5
      have y6 : w9.cell? ⟨w.heap.size + 1, 6, none⟩ = some (.slice none 0 0) := bxw.cell 6
      have yl := bxw.lt
      have BXW := Lib.hid bxw
      clear bxw
      go_simp
      exact hK undef _ (fun k v _ _ h => h.far7 HN2.out) (fun t ht => by cases ht) (hcm.put7 nO hlt (by omega) HN.out BXW.out)
  · intro listed a w10 hr hj
    have hu : ∀ k, k < 15 → up listed k := fun k hk => all_up (by kernel_rfl) hj.lsize hr k hk
    obtain ⟨f, rfl, hcm, hf⟩ := hj.opened [36, 37, 38, 39, 40, 41, 42, 43, 44, 45, 46, 47, 48, 2] (by kernel_rfl)
    replace hcm : CJ W0 14 w.heap.size (w.heap.size + 1) #[.int .u8 (r.kind : Int), .int .i64 0, .int .i64 r.id, .int .i64 0, .int .u8 (r.ans : Int), .slice none 0 0, .slice none 0 0] 29 listed f w10 := hcm
    obtain ⟨hbl, HE0⟩ := hcm.2 (hu 14 (by omega))
    have HO : Hid (OwnI w10 N2 (f 2) ([r.id, (r.ans : Int)])) := hf 13 _ _ rfl rfl (hu 13 (by omega))
    have HB1 : Hid (Below w.heap.size w w10) := HB.out.trans hbl
    have HE := Lib.hid HE0
    clear hf hj hr hu hcm hbl HE0
    simp only [List.foldl_cons, List.foldl_nil, List.setIfInBounds_toArray, List.set_cons_zero, List.set_cons_succ]
    obtain ⟨v2, hv2⟩ : ∃ v, f 2 = v := ⟨_, rfl⟩
    rw [hv2] at HO ⊢
    clear hv2
    generalize f 36 = g36
    generalize f 37 = g37
    generalize f 38 = g38
    generalize f 39 = g39
    generalize f 40 = g40
    generalize f 41 = g41
    generalize f 42 = g42
    generalize f 43 = g43
    generalize f 44 = g44
    generalize f 45 = g45
    generalize f 46 = g46
    generalize f 47 = g47
    generalize f 48 = g48
    clear f
    go_wp2_with fail
    have z0 := HE.out.cell 0
    have z1 := HE.out.cell 1
    have z2 := HE.out.cell 2
    have z3 := HE.out.cell 3
    have z4 := HE.out.cell 4
    have z5 := HE.out.cell 5
    have z6 := HE.out.cell 6
    refine bodyPost_ret (v := .tuple #[v2, .agg #[.int .u8 (r.kind : Int), .int .i64 0, .int .i64 r.id, .int .i64 0, .int .u8 (r.ans : Int), .slice none 0 0, .slice none 0 0]]) (by simp [results, Tryz.results25, go_sem, z0, z1, z2, z3, z4, z5, z6]) rfl ?_
    refine ⟨_, _, rfl, by rw [EN.out]; exact HO.out.sl, ?_, HB1.out⟩
    rw [EB.out]
    exact ⟨⟨HOK.out.1, (by constructor <;> simp), HOK.out.2.2.1, (by constructor <;> simp), HOK.out.2.2.2.2⟩, _, _, rfl, SlS.nil _, SlL.nil _⟩

set_option maxRecDepth 100000 in
set_option maxHeartbeats 2000000 in
theorem numbers2_c (w : World) (v : Value) (r : Rec) (h : IsR w v r) (hs : r.steps.length ≤ 12) (ha : r.after.length ≤ 12) (hls : ∀ a ∈ r.after, a.length ≤ 12) (hk : r.kind = 2) :
    Calls Tryz.prog 25 #[v] w (RetNum w r) := by
  obtain ⟨hok, vs, va, rfl, h1, h2⟩ := h
  obtain ⟨W0, hW, bx, by', hsz, hb0⟩ := start2 w (recV r vs va) zeroV 29
  have H1 := Lib.hid (h1.after hb0)
  have H2 := Lib.hid (h2.after hb0)
  have HS1 := Lib.hid h1
  have HS2 := Lib.hid h2
  have HB := Lib.hid hb0
  have BX := Lib.hid bx
  have BY := Lib.hid by'
  have HOK := Lib.hid hok
  have HS := Lib.hid hs
  have HA := Lib.hid ha
  have HLS := Lib.hid hls
  have x0 : W0.cell? ⟨w.heap.size, 0, none⟩ = some (.int .u8 (r.kind : Int)) := bx.cell 0
  have x1 : W0.cell? ⟨w.heap.size, 1, none⟩ = some (.int .i64 r.place) := bx.cell 1
  have x2 : W0.cell? ⟨w.heap.size, 2, none⟩ = some (.int .i64 r.id) := bx.cell 2
  have x3 : W0.cell? ⟨w.heap.size, 3, none⟩ = some (.int .i64 r.lease) := bx.cell 3
  have x4 : W0.cell? ⟨w.heap.size, 4, none⟩ = some (.int .u8 (r.ans : Int)) := bx.cell 4
  have x5 : W0.cell? ⟨w.heap.size, 5, none⟩ = some vs := bx.cell 5
  have x6 : W0.cell? ⟨w.heap.size, 6, none⟩ = some va := bx.cell 6
  have lx := bx.lt
  have ly := by'.lt
  have hW' : W0 = (w.alloc (.cells #[.int .u8 (r.kind : Int), .int .i64 r.place, .int .i64 r.id, .int .i64 r.lease, .int .u8 (r.ans : Int), vs, va] 29)).alloc (.cells #[.int .u8 0, .int .i64 0, .int .i64 0, .int .i64 0, .int .u8 0, .slice none 0 0, .slice none 0 0] 29) := hW
  have HN : Hid (w.heap.size ≤ W0.heap.size) := by show _ ≤ _; omega
  obtain ⟨N2, hN2⟩ : ∃ N2, w.heap.size + 2 = N2 := ⟨_, rfl⟩
  have HN2 : Hid (w.heap.size + 1 < N2) := by show _ < _; omega
  have HN3 : Hid (N2 ≤ W0.heap.size) := by show _ ≤ _; omega
  clear hW hN2 hsz
  have hW := hW'
  clear hW' h1 h2 hb0 bx by' hok hls hs ha
  show Calls _ _ #[.agg #[.int .u8 (r.kind : Int), .int .i64 r.place, .int .i64 r.id, .int .i64 r.lease, .int .u8 (r.ans : Int), vs, va]] w _
  have q1 : ((r.kind : Int) == 1) = false := by rw [beq_eq_false_iff_ne]; omega
  have q2 : ((r.kind : Int) == 2) = true := by rw [beq_iff_eq]; omega
  have EN : Hid (numsOf r = [r.place, r.id, r.lease]) := by show _ = _; unfold numsOf; simp only [hk]
  have EB : Hid (bareR r = ⟨r.kind, r.place, r.id, r.lease, 0, [], []⟩) := by show _ = _; unfold bareR; simp only [hk]
  clear hk
  go_enter Tryz.func25, Tryz.ntmps25
  go_upto_region 1 with fail
  rw [← hW]
  clear hW
  go_upto_region 5 with fail
  refine wp_region_gj (J := GJ _ (fun _ => SJ N2 (fun κ => match κ with | 0 => .eq (.pointer (some ⟨w.heap.size, 1, none⟩)) | 1 => .eq (.int .i64 r.place) | 2 => .eq (.pointer (some ⟨w.heap.size, 2, none⟩)) | 3 => .eq (.int .i64 r.id) | 4 => .eq (.pointer (some ⟨w.heap.size, 3, none⟩)) | 5 => .eq (.int .i64 r.lease) | 6 => .own ([r.place, r.id, r.lease]) | 7 => .eq (.pointer (some ⟨w.heap.size, 0, none⟩)) | 8 => .eq (.int .u8 (r.kind : Int)) | 9 => .eq (.pointer (some ⟨w.heap.size, 1, none⟩)) | 10 => .eq (.int .i64 r.place) | 11 => .eq (.pointer (some ⟨w.heap.size, 2, none⟩)) | 12 => .eq (.int .i64 r.id) | 13 => .eq (.pointer (some ⟨w.heap.size, 3, none⟩)) | 14 => .eq (.int .i64 r.lease) | 15 => .eq (.agg #[.int .u8 (r.kind : Int), .int .i64 r.place, .int .i64 r.id, .int .i64 r.lease, .int .u8 0, .slice none 0 0, .slice none 0 0]) | 16 => .own ([r.place, r.id, r.lease]) | _ => .any)) (CJ W0 17 w.heap.size (w.heap.size + 1) #[.int .u8 (r.kind : Int), .int .i64 r.place, .int .i64 r.id, .int .i64 r.lease, .int .u8 0, .slice none 0 0, .slice none 0 0] 29) _) (by kernel_rfl) ?_ ?_ (GJ.start CJ.start)
  · intro listed a w9 i hr hj
    obtain ⟨hi12, hun, _, _, _⟩ := ready_mem hr
    have h12 : i ∈ List.range 18 := List.mem_range.2 hi12
    simp only [List.range, List.range.loop, List.mem_cons, List.not_mem_nil, or_false] at h12
    obtain ⟨f, rfl, hcm, hf⟩ := hj.opened [18, 19, 20, 21, 22, 23, 24, 25, 26, 27, 28, 29, 30, 31, 32, 33, 2] (by kernel_rfl)
    replace hcm : CJ W0 17 w.heap.size (w.heap.size + 1) #[.int .u8 (r.kind : Int), .int .i64 r.place, .int .i64 r.id, .int .i64 r.lease, .int .u8 0, .slice none 0 0, .slice none 0 0] 29 listed f w9 := hcm
    rcases h12 with rfl | rfl | rfl | rfl | rfl | rfl | rfl | rfl | rfl | rfl | rfl | rfl | rfl | rfl | rfl | rfl | rfl | rfl
    · have nO : ¬ up listed 17 := fun h => not_up hun (hj.closed 17 0 h (by kernel_rfl))
      have bw := hcm.1 nO
      have klt := Nat.lt_of_lt_of_le lx bw.size
      refine GJ.op hj (by kernel_rfl) hr rfl [18, 19, 20, 21, 22, 23, 24, 25, 26, 27, 28, 29, 30, 31, 32, 33, 2] (by kernel_rfl) (fun K hK => ?_)
      simp only [Act.put, List.foldl_cons, List.foldl_nil, List.setIfInBounds_toArray, List.set_cons_zero, List.set_cons_succ] at hK ⊢
      clear hj hf
      go_simp
      exact hK _ _ (fun k v _ _ h => h.keep (Below.refl _ _)) (fun t ht => SJ.of (.eq (.pointer (some ⟨w.heap.size, 1, none⟩))) rfl rfl) (hcm.keep (Below.refl _ _) (by omega) HN.out)
    · have nO : ¬ up listed 17 := fun h => not_up hun (hj.closed 17 1 h (by kernel_rfl))
      have bw := hcm.1 nO
      have e1 : f 18 = .pointer (some ⟨w.heap.size, 1, none⟩) := hf 0 _ _ rfl rfl (up_dep hr (by kernel_rfl))
      have kx := keep_cell bw x1
      have klt := Nat.lt_of_lt_of_le lx bw.size
      refine GJ.op hj (by kernel_rfl) hr rfl [18, 19, 20, 21, 22, 23, 24, 25, 26, 27, 28, 29, 30, 31, 32, 33, 2] (by kernel_rfl) (fun K hK => ?_)
      simp only [Act.put, List.foldl_cons, List.foldl_nil, List.setIfInBounds_toArray, List.set_cons_zero, List.set_cons_succ] at hK ⊢
      clear hj hf
      rw [e1] at hK ⊢
      clear e1
      go_simp
      exact hK _ _ (fun k v _ _ h => h.keep (Below.refl _ _)) (fun t ht => SJ.of (.eq (.int .i64 r.place)) rfl rfl) (hcm.keep (Below.refl _ _) (by omega) HN.out)
    · have nO : ¬ up listed 17 := fun h => not_up hun (hj.closed 17 2 h (by kernel_rfl))
      have bw := hcm.1 nO
      have klt := Nat.lt_of_lt_of_le lx bw.size
      refine GJ.op hj (by kernel_rfl) hr rfl [18, 19, 20, 21, 22, 23, 24, 25, 26, 27, 28, 29, 30, 31, 32, 33, 2] (by kernel_rfl) (fun K hK => ?_)
      simp only [Act.put, List.foldl_cons, List.foldl_nil, List.setIfInBounds_toArray, List.set_cons_zero, List.set_cons_succ] at hK ⊢
      clear hj hf
      go_simp
      exact hK _ _ (fun k v _ _ h => h.keep (Below.refl _ _)) (fun t ht => SJ.of (.eq (.pointer (some ⟨w.heap.size, 2, none⟩))) rfl rfl) (hcm.keep (Below.refl _ _) (by omega) HN.out)
    · have nO : ¬ up listed 17 := fun h => not_up hun (hj.closed 17 3 h (by kernel_rfl))
      have bw := hcm.1 nO
      have e1 : f 20 = .pointer (some ⟨w.heap.size, 2, none⟩) := hf 2 _ _ rfl rfl (up_dep hr (by kernel_rfl))
      have kx := keep_cell bw x2
      have klt := Nat.lt_of_lt_of_le lx bw.size
      refine GJ.op hj (by kernel_rfl) hr rfl [18, 19, 20, 21, 22, 23, 24, 25, 26, 27, 28, 29, 30, 31, 32, 33, 2] (by kernel_rfl) (fun K hK => ?_)
      simp only [Act.put, List.foldl_cons, List.foldl_nil, List.setIfInBounds_toArray, List.set_cons_zero, List.set_cons_succ] at hK ⊢
      clear hj hf
      rw [e1] at hK ⊢
      clear e1
      go_simp
      exact hK _ _ (fun k v _ _ h => h.keep (Below.refl _ _)) (fun t ht => SJ.of (.eq (.int .i64 r.id)) rfl rfl) (hcm.keep (Below.refl _ _) (by omega) HN.out)
    · have nO : ¬ up listed 17 := fun h => not_up hun (hj.closed 17 4 h (by kernel_rfl))
      have bw := hcm.1 nO
      have klt := Nat.lt_of_lt_of_le lx bw.size
      refine GJ.op hj (by kernel_rfl) hr rfl [18, 19, 20, 21, 22, 23, 24, 25, 26, 27, 28, 29, 30, 31, 32, 33, 2] (by kernel_rfl) (fun K hK => ?_)
      simp only [Act.put, List.foldl_cons, List.foldl_nil, List.setIfInBounds_toArray, List.set_cons_zero, List.set_cons_succ] at hK ⊢
      clear hj hf
      go_simp
      exact hK _ _ (fun k v _ _ h => h.keep (Below.refl _ _)) (fun t ht => SJ.of (.eq (.pointer (some ⟨w.heap.size, 3, none⟩))) rfl rfl) (hcm.keep (Below.refl _ _) (by omega) HN.out)
    · have nO : ¬ up listed 17 := fun h => not_up hun (hj.closed 17 5 h (by kernel_rfl))
      have bw := hcm.1 nO
      have e1 : f 22 = .pointer (some ⟨w.heap.size, 3, none⟩) := hf 4 _ _ rfl rfl (up_dep hr (by kernel_rfl))
      have kx := keep_cell bw x3
      have klt := Nat.lt_of_lt_of_le lx bw.size
      refine GJ.op hj (by kernel_rfl) hr rfl [18, 19, 20, 21, 22, 23, 24, 25, 26, 27, 28, 29, 30, 31, 32, 33, 2] (by kernel_rfl) (fun K hK => ?_)
      simp only [Act.put, List.foldl_cons, List.foldl_nil, List.setIfInBounds_toArray, List.set_cons_zero, List.set_cons_succ] at hK ⊢
      clear hj hf
      rw [e1] at hK ⊢
      clear e1
      go_simp
      exact hK _ _ (fun k v _ _ h => h.keep (Below.refl _ _)) (fun t ht => SJ.of (.eq (.int .i64 r.lease)) rfl rfl) (hcm.keep (Below.refl _ _) (by omega) HN.out)
    · have nO : ¬ up listed 17 := fun h => not_up hun (hj.closed 17 6 h (by kernel_rfl))
      have bw := hcm.1 nO
      have e1 : f 19 = .int .i64 r.place := hf 1 _ _ rfl rfl (up_dep hr (by kernel_rfl))
      have e2 : f 21 = .int .i64 r.id := hf 3 _ _ rfl rfl (up_dep hr (by kernel_rfl))
      have e3 : f 23 = .int .i64 r.lease := hf 5 _ _ rfl rfl (up_dep hr (by kernel_rfl))
      obtain ⟨_, hp64, hid64, hl64, _⟩ := HOK.out
      have hbz := Nat.le_trans HN3.out bw.size
      have HOW := Lib.hid (OwnI.three w9 hbz hp64 hid64 hl64)
      clear hid64 hp64 hl64 hbz
      refine GJ.op hj (by kernel_rfl) hr rfl [18, 19, 20, 21, 22, 23, 24, 25, 26, 27, 28, 29, 30, 31, 32, 33, 2] (by kernel_rfl) (fun K hK => ?_)
      simp only [Act.put, List.foldl_cons, List.foldl_nil, List.setIfInBounds_toArray, List.set_cons_zero, List.set_cons_succ] at hK ⊢
      clear hj hf
      rw [e1, e2, e3] at hK ⊢
      clear e1 e2 e3
      go_simp
      exact hK _ _ (fun k v _ _ h => h.keep (held_alloc (Below.refl _ _))) (fun t ht => SJ.of (.own [r.place, r.id, r.lease]) rfl HOW.out) (hcm.keep (held_alloc (Below.refl _ _)) (by omega) HN.out)
    · have nO : ¬ up listed 17 := fun h => not_up hun (hj.closed 17 7 h (by kernel_rfl))
      have bw := hcm.1 nO
      have klt := Nat.lt_of_lt_of_le lx bw.size
      refine GJ.op hj (by kernel_rfl) hr rfl [18, 19, 20, 21, 22, 23, 24, 25, 26, 27, 28, 29, 30, 31, 32, 33, 2] (by kernel_rfl) (fun K hK => ?_)
      simp only [Act.put, List.foldl_cons, List.foldl_nil, List.setIfInBounds_toArray, List.set_cons_zero, List.set_cons_succ] at hK ⊢
      clear hj hf
      go_simp
      exact hK _ _ (fun k v _ _ h => h.keep (Below.refl _ _)) (fun t ht => SJ.of (.eq (.pointer (some ⟨w.heap.size, 0, none⟩))) rfl rfl) (hcm.keep (Below.refl _ _) (by omega) HN.out)
    · have nO : ¬ up listed 17 := fun h => not_up hun (hj.closed 17 8 h (by kernel_rfl))
      have bw := hcm.1 nO
      have e1 : f 25 = .pointer (some ⟨w.heap.size, 0, none⟩) := hf 7 _ _ rfl rfl (up_dep hr (by kernel_rfl))
      have kx := keep_cell bw x0
      have klt := Nat.lt_of_lt_of_le lx bw.size
      refine GJ.op hj (by kernel_rfl) hr rfl [18, 19, 20, 21, 22, 23, 24, 25, 26, 27, 28, 29, 30, 31, 32, 33, 2] (by kernel_rfl) (fun K hK => ?_)
      simp only [Act.put, List.foldl_cons, List.foldl_nil, List.setIfInBounds_toArray, List.set_cons_zero, List.set_cons_succ] at hK ⊢
      clear hj hf
      rw [e1] at hK ⊢
      clear e1
      go_simp
      exact hK _ _ (fun k v _ _ h => h.keep (Below.refl _ _)) (fun t ht => SJ.of (.eq (.int .u8 (r.kind : Int))) rfl rfl) (hcm.keep (Below.refl _ _) (by omega) HN.out)
    · have nO : ¬ up listed 17 := fun h => not_up hun (hj.closed 17 9 h (by kernel_rfl))
      have bw := hcm.1 nO
      have klt := Nat.lt_of_lt_of_le lx bw.size
      refine GJ.op hj (by kernel_rfl) hr rfl [18, 19, 20, 21, 22, 23, 24, 25, 26, 27, 28, 29, 30, 31, 32, 33, 2] (by kernel_rfl) (fun K hK => ?_)
      simp only [Act.put, List.foldl_cons, List.foldl_nil, List.setIfInBounds_toArray, List.set_cons_zero, List.set_cons_succ] at hK ⊢
      clear hj hf
      go_simp
      exact hK _ _ (fun k v _ _ h => h.keep (Below.refl _ _)) (fun t ht => SJ.of (.eq (.pointer (some ⟨w.heap.size, 1, none⟩))) rfl rfl) (hcm.keep (Below.refl _ _) (by omega) HN.out)
    · have nO : ¬ up listed 17 := fun h => not_up hun (hj.closed 17 10 h (by kernel_rfl))
      have bw := hcm.1 nO
      have e1 : f 27 = .pointer (some ⟨w.heap.size, 1, none⟩) := hf 9 _ _ rfl rfl (up_dep hr (by kernel_rfl))
      have kx := keep_cell bw x1
      have klt := Nat.lt_of_lt_of_le lx bw.size
      refine GJ.op hj (by kernel_rfl) hr rfl [18, 19, 20, 21, 22, 23, 24, 25, 26, 27, 28, 29, 30, 31, 32, 33, 2] (by kernel_rfl) (fun K hK => ?_)
      simp only [Act.put, List.foldl_cons, List.foldl_nil, List.setIfInBounds_toArray, List.set_cons_zero, List.set_cons_succ] at hK ⊢
      clear hj hf
      rw [e1] at hK ⊢
      clear e1
      go_simp
      exact hK _ _ (fun k v _ _ h => h.keep (Below.refl _ _)) (fun t ht => SJ.of (.eq (.int .i64 r.place)) rfl rfl) (hcm.keep (Below.refl _ _) (by omega) HN.out)
    · have nO : ¬ up listed 17 := fun h => not_up hun (hj.closed 17 11 h (by kernel_rfl))
      have bw := hcm.1 nO
      have klt := Nat.lt_of_lt_of_le lx bw.size
      refine GJ.op hj (by kernel_rfl) hr rfl [18, 19, 20, 21, 22, 23, 24, 25, 26, 27, 28, 29, 30, 31, 32, 33, 2] (by kernel_rfl) (fun K hK => ?_)
      simp only [Act.put, List.foldl_cons, List.foldl_nil, List.setIfInBounds_toArray, List.set_cons_zero, List.set_cons_succ] at hK ⊢
      clear hj hf
      go_simp
      exact hK _ _ (fun k v _ _ h => h.keep (Below.refl _ _)) (fun t ht => SJ.of (.eq (.pointer (some ⟨w.heap.size, 2, none⟩))) rfl rfl) (hcm.keep (Below.refl _ _) (by omega) HN.out)
    · have nO : ¬ up listed 17 := fun h => not_up hun (hj.closed 17 12 h (by kernel_rfl))
      have bw := hcm.1 nO
      have e1 : f 29 = .pointer (some ⟨w.heap.size, 2, none⟩) := hf 11 _ _ rfl rfl (up_dep hr (by kernel_rfl))
      have kx := keep_cell bw x2
      have klt := Nat.lt_of_lt_of_le lx bw.size
      refine GJ.op hj (by kernel_rfl) hr rfl [18, 19, 20, 21, 22, 23, 24, 25, 26, 27, 28, 29, 30, 31, 32, 33, 2] (by kernel_rfl) (fun K hK => ?_)
      simp only [Act.put, List.foldl_cons, List.foldl_nil, List.setIfInBounds_toArray, List.set_cons_zero, List.set_cons_succ] at hK ⊢
      clear hj hf
      rw [e1] at hK ⊢
      clear e1
      go_simp
      exact hK _ _ (fun k v _ _ h => h.keep (Below.refl _ _)) (fun t ht => SJ.of (.eq (.int .i64 r.id)) rfl rfl) (hcm.keep (Below.refl _ _) (by omega) HN.out)
    · have nO : ¬ up listed 17 := fun h => not_up hun (hj.closed 17 13 h (by kernel_rfl))
      have bw := hcm.1 nO
      have klt := Nat.lt_of_lt_of_le lx bw.size
      refine GJ.op hj (by kernel_rfl) hr rfl [18, 19, 20, 21, 22, 23, 24, 25, 26, 27, 28, 29, 30, 31, 32, 33, 2] (by kernel_rfl) (fun K hK => ?_)
      simp only [Act.put, List.foldl_cons, List.foldl_nil, List.setIfInBounds_toArray, List.set_cons_zero, List.set_cons_succ] at hK ⊢
      clear hj hf
      go_simp
      exact hK _ _ (fun k v _ _ h => h.keep (Below.refl _ _)) (fun t ht => SJ.of (.eq (.pointer (some ⟨w.heap.size, 3, none⟩))) rfl rfl) (hcm.keep (Below.refl _ _) (by omega) HN.out)
    · have nO : ¬ up listed 17 := fun h => not_up hun (hj.closed 17 14 h (by kernel_rfl))
      have bw := hcm.1 nO
      have e1 : f 31 = .pointer (some ⟨w.heap.size, 3, none⟩) := hf 13 _ _ rfl rfl (up_dep hr (by kernel_rfl))
      have kx := keep_cell bw x3
      have klt := Nat.lt_of_lt_of_le lx bw.size
      refine GJ.op hj (by kernel_rfl) hr rfl [18, 19, 20, 21, 22, 23, 24, 25, 26, 27, 28, 29, 30, 31, 32, 33, 2] (by kernel_rfl) (fun K hK => ?_)
      simp only [Act.put, List.foldl_cons, List.foldl_nil, List.setIfInBounds_toArray, List.set_cons_zero, List.set_cons_succ] at hK ⊢
      clear hj hf
      rw [e1] at hK ⊢
      clear e1
      go_simp
      exact hK _ _ (fun k v _ _ h => h.keep (Below.refl _ _)) (fun t ht => SJ.of (.eq (.int .i64 r.lease)) rfl rfl) (hcm.keep (Below.refl _ _) (by omega) HN.out)
    · have nO : ¬ up listed 17 := fun h => not_up hun (hj.closed 17 15 h (by kernel_rfl))
      have bw := hcm.1 nO
      have e1 : f 26 = .int .u8 (r.kind : Int) := hf 8 _ _ rfl rfl (up_dep hr (by kernel_rfl))
      have e2 : f 28 = .int .i64 r.place := hf 10 _ _ rfl rfl (up_dep hr (by kernel_rfl))
      have e3 : f 30 = .int .i64 r.id := hf 12 _ _ rfl rfl (up_dep hr (by kernel_rfl))
      have e4 : f 32 = .int .i64 r.lease := hf 14 _ _ rfl rfl (up_dep hr (by kernel_rfl))
      refine GJ.op hj (by kernel_rfl) hr rfl [18, 19, 20, 21, 22, 23, 24, 25, 26, 27, 28, 29, 30, 31, 32, 33, 2] (by kernel_rfl) (fun K hK => ?_)
      simp only [Act.put, List.foldl_cons, List.foldl_nil, List.setIfInBounds_toArray, List.set_cons_zero, List.set_cons_succ] at hK ⊢
      clear hj hf
      rw [e1, e2, e3, e4] at hK ⊢
      clear e1 e2 e3 e4
      go_simp
      exact hK _ _ (fun k v _ _ h => h.keep (Below.refl _ _)) (fun t ht => SJ.of (.eq (.agg #[.int .u8 (r.kind : Int), .int .i64 r.place, .int .i64 r.id, .int .i64 r.lease, .int .u8 0, .slice none 0 0, .slice none 0 0])) rfl rfl) (hcm.keep (Below.refl _ _) (by omega) HN.out)
    · have nO : ¬ up listed 17 := fun h => not_up hun (hj.closed 17 16 h (by kernel_rfl))
      have bw := hcm.1 nO
      have s1 : OwnI w9 N2 (f 24) ([r.place, r.id, r.lease]) := hf 6 _ _ rfl rfl (up_dep hr (by kernel_rfl))
      refine GJ.op hj (by kernel_rfl) hr rfl [18, 19, 20, 21, 22, 23, 24, 25, 26, 27, 28, 29, 30, 31, 32, 33, 2] (by kernel_rfl) (fun K hK => ?_)
      simp only [Act.put, List.foldl_cons, List.foldl_nil, List.setIfInBounds_toArray, List.set_cons_zero, List.set_cons_succ] at hK ⊢
      clear hj hf
      go_simp
      exact hK _ _ (fun k v _ _ h => h.keep (Below.refl _ _)) (fun t ht => SJ.of (.own ([r.place, r.id, r.lease])) rfl s1) (hcm.keep (Below.refl _ _) (by omega) HN.out)
    · have nO := not_up hun
      have bw := hcm.1 nO
      have bxw := BY.out.after bw
      have e1 : f 33 = .agg #[.int .u8 (r.kind : Int), .int .i64 r.place, .int .i64 r.id, .int .i64 r.lease, .int .u8 0, .slice none 0 0, .slice none 0 0] := hf 15 _ _ rfl rfl (up_dep hr (by kernel_rfl))
      have hsz7 := hj.lsize
      have hlt : 17 < listed.size := by rw [hsz7]; decide
      refine GJ.op hj (by kernel_rfl) hr rfl [18, 19, 20, 21, 22, 23, 24, 25, 26, 27, 28, 29, 30, 31, 32, 33, 2] (by kernel_rfl) (fun K hK => ?_)
      simp only [Act.put, List.foldl_cons, List.foldl_nil, List.setIfInBounds_toArray, List.set_cons_zero, List.set_cons_succ] at hK ⊢
      clear hj hf
      rw [e1] at hK ⊢
      clear e1
      have g0 := bxw.frozen 0
      have g1 := bxw.frozen 1
      have g2 := bxw.frozen 2
      have g3 := bxw.frozen 3
      have g4 := bxw.frozen 4
      have g5 := bxw.frozen 5
      have g6 := bxw.frozen 6
      have y0 : w9.cell? ⟨w.heap.size + 1, 0, none⟩ = some (.int .u8 0) := bxw.cell 0
      have y1 : w9.cell? ⟨w.heap.size + 1, 1, none⟩ = some (.int .i64 0) := bxw.cell 1
      have y2 : w9.cell? ⟨w.heap.size + 1, 2, none⟩ = some (.int .i64 0) := bxw.cell 2
      have y3 : w9.cell? ⟨w.heap.size + 1, 3, none⟩ = some (.int .i64 0) := bxw.cell 3
      have y4 : w9.cell? ⟨w.heap.size + 1, 4, none⟩ = some (.int .u8 0) := bxw.cell 4
      have y5 : w9.cell? ⟨w.heap.size + 1, 5, none⟩ = some (.slice none 0 0) := bxw.cell 5
      have y6 : w9.cell? ⟨w.heap.size + 1, 6, none⟩ = some (.slice none 0 0) := bxw.cell 6
      have yl := bxw.lt
      have BXW := Lib.hid bxw
      clear bxw
      go_simp
      exact hK undef _ (fun k v _ _ h => h.far7 HN2.out) (fun t ht => by cases ht) (hcm.put7 nO hlt (by omega) HN.out BXW.out)
  · intro listed a w10 hr hj
    have hu : ∀ k, k < 18 → up listed k := fun k hk => all_up (by kernel_rfl) hj.lsize hr k hk
    obtain ⟨f, rfl, hcm, hf⟩ := hj.opened [18, 19, 20, 21, 22, 23, 24, 25, 26, 27, 28, 29, 30, 31, 32, 33, 2] (by kernel_rfl)
    replace hcm : CJ W0 17 w.heap.size (w.heap.size + 1) #[.int .u8 (r.kind : Int), .int .i64 r.place, .int .i64 r.id, .int .i64 r.lease, .int .u8 0, .slice none 0 0, .slice none 0 0] 29 listed f w10 := hcm
    obtain ⟨hbl, HE0⟩ := hcm.2 (hu 17 (by omega))
    have HO : Hid (OwnI w10 N2 (f 2) ([r.place, r.id, r.lease])) := hf 16 _ _ rfl rfl (hu 16 (by omega))
    have HB1 : Hid (Below w.heap.size w w10) := HB.out.trans hbl
    have HE := Lib.hid HE0
    clear hf hj hr hu hcm hbl HE0
    simp only [List.foldl_cons, List.foldl_nil, List.setIfInBounds_toArray, List.set_cons_zero, List.set_cons_succ]
    obtain ⟨v2, hv2⟩ : ∃ v, f 2 = v := ⟨_, rfl⟩
    rw [hv2] at HO ⊢
    clear hv2
    generalize f 18 = g18
    generalize f 19 = g19
    generalize f 20 = g20
    generalize f 21 = g21
    generalize f 22 = g22
    generalize f 23 = g23
    generalize f 24 = g24
    generalize f 25 = g25
    generalize f 26 = g26
    generalize f 27 = g27
    generalize f 28 = g28
    generalize f 29 = g29
    generalize f 30 = g30
    generalize f 31 = g31
    generalize f 32 = g32
    generalize f 33 = g33
    clear f
    go_wp2_with fail
    have z0 := HE.out.cell 0
    have z1 := HE.out.cell 1
    have z2 := HE.out.cell 2
    have z3 := HE.out.cell 3
    have z4 := HE.out.cell 4
    have z5 := HE.out.cell 5
    have z6 := HE.out.cell 6
    refine bodyPost_ret (v := .tuple #[v2, .agg #[.int .u8 (r.kind : Int), .int .i64 r.place, .int .i64 r.id, .int .i64 r.lease, .int .u8 0, .slice none 0 0, .slice none 0 0]]) (by simp [results, Tryz.results25, go_sem, z0, z1, z2, z3, z4, z5, z6]) rfl ?_
    refine ⟨_, _, rfl, by rw [EN.out]; exact HO.out.sl, ?_, HB1.out⟩
    rw [EB.out]
    exact ⟨⟨HOK.out.1, HOK.out.2.1, HOK.out.2.2.1, HOK.out.2.2.2.1, by simp⟩, _, _, rfl, SlS.nil _, SlL.nil _⟩

set_option maxRecDepth 100000 in
set_option maxHeartbeats 2000000 in
theorem numbers1_c (w : World) (v : Value) (r : Rec) (h : IsR w v r) (hs : r.steps.length ≤ 12) (ha : r.after.length ≤ 12) (hls : ∀ a ∈ r.after, a.length ≤ 12) (hk : r.kind = 1) :
    Calls Tryz.prog 25 #[v] w (RetNum w r) := by
  obtain ⟨hok, vs, va, rfl, h1, h2⟩ := h
  obtain ⟨pS, cS, rfl, _, _, _⟩ := h1.2.shape
  obtain ⟨uL, huL, _⟩ := id h2
  obtain ⟨pL, cL, rfl, _, _, _⟩ := huL.shape
  clear huL
  obtain ⟨W0, hW, bx, by', hsz, hb0⟩ := start2 w (recV r (.slice pS r.steps.length cS) (.slice pL r.after.length cL)) zeroV 29
  have H1 := Lib.hid (h1.after hb0)
  have H2 := Lib.hid (h2.after hb0)
  have HS1 := Lib.hid h1
  have HS2 := Lib.hid h2
  have HB := Lib.hid hb0
  have BX := Lib.hid bx
  have BY := Lib.hid by'
  have HOK := Lib.hid hok
  have HS := Lib.hid hs
  have HA := Lib.hid ha
  have HLS := Lib.hid hls
  have x0 : W0.cell? ⟨w.heap.size, 0, none⟩ = some (.int .u8 (r.kind : Int)) := bx.cell 0
  have x1 : W0.cell? ⟨w.heap.size, 1, none⟩ = some (.int .i64 r.place) := bx.cell 1
  have x2 : W0.cell? ⟨w.heap.size, 2, none⟩ = some (.int .i64 r.id) := bx.cell 2
  have x3 : W0.cell? ⟨w.heap.size, 3, none⟩ = some (.int .i64 r.lease) := bx.cell 3
  have x4 : W0.cell? ⟨w.heap.size, 4, none⟩ = some (.int .u8 (r.ans : Int)) := bx.cell 4
  have x5 : W0.cell? ⟨w.heap.size, 5, none⟩ = some (.slice pS r.steps.length cS) := bx.cell 5
  have x6 : W0.cell? ⟨w.heap.size, 6, none⟩ = some (.slice pL r.after.length cL) := bx.cell 6
  have lx := bx.lt
  have ly := by'.lt
  have hW' : W0 = (w.alloc (.cells #[.int .u8 (r.kind : Int), .int .i64 r.place, .int .i64 r.id, .int .i64 r.lease, .int .u8 (r.ans : Int), (.slice pS r.steps.length cS), (.slice pL r.after.length cL)] 29)).alloc (.cells #[.int .u8 0, .int .i64 0, .int .i64 0, .int .i64 0, .int .u8 0, .slice none 0 0, .slice none 0 0] 29) := hW
  have HN : Hid (w.heap.size ≤ W0.heap.size) := by show _ ≤ _; omega
  obtain ⟨N2, hN2⟩ : ∃ N2, w.heap.size + 2 = N2 := ⟨_, rfl⟩
  have HN2 : Hid (w.heap.size + 1 < N2) := by show _ < _; omega
  have HN3 : Hid (N2 ≤ W0.heap.size) := by show _ ≤ _; omega
  clear hW hN2 hsz
  have hW := hW'
  clear hW' h1 h2 hb0 bx by' hok hls hs ha
  show Calls _ _ #[.agg #[.int .u8 (r.kind : Int), .int .i64 r.place, .int .i64 r.id, .int .i64 r.lease, .int .u8 (r.ans : Int), (.slice pS r.steps.length cS), (.slice pL r.after.length cL)]] w _
  have q1 : ((r.kind : Int) == 1) = true := by rw [beq_iff_eq]; omega
  have EN : Hid (numsOf r = planned r.steps r.after) := by show _ = _; unfold numsOf; simp only [hk]
  have EB : Hid (bareR r = ⟨r.kind, 0, 0, 0, 0, r.steps, r.after⟩) := by show _ = _; unfold bareR; simp only [hk]
  clear hk
  go_enter Tryz.func25, Tryz.ntmps25
  go_upto_region 1 with fail
  rw [← hW]
  clear hW
  go_upto_region 3 with fail
  refine wp_region_gj (J := GJ _ (fun _ => SJ N2 (fun κ => match κ with | 0 => .eq (.pointer (some ⟨w.heap.size, 5, none⟩)) | 1 => .eq (.agg #[(.slice pS r.steps.length cS), (.slice pL r.after.length cL)]) | 2 => .own (planned r.steps r.after) | 3 => .eq (.pointer (some ⟨w.heap.size, 0, none⟩)) | 4 => .eq (.int .u8 (r.kind : Int)) | 5 => .eq (.pointer (some ⟨w.heap.size, 5, none⟩)) | 6 => .eq (.agg #[(.slice pS r.steps.length cS), (.slice pL r.after.length cL)]) | 7 => .eq (.agg #[.int .u8 (r.kind : Int), .int .i64 0, .int .i64 0, .int .i64 0, .int .u8 0, (.slice pS r.steps.length cS), (.slice pL r.after.length cL)]) | 8 => .own (planned r.steps r.after) | _ => .any)) (CJ W0 9 w.heap.size (w.heap.size + 1) #[.int .u8 (r.kind : Int), .int .i64 0, .int .i64 0, .int .i64 0, .int .u8 0, (.slice pS r.steps.length cS), (.slice pL r.after.length cL)] 29) _) (by kernel_rfl) ?_ ?_ (GJ.start CJ.start)
  · intro listed a w9 i hr hj
    obtain ⟨hi12, hun, _, _, _⟩ := ready_mem hr
    have h12 : i ∈ List.range 10 := List.mem_range.2 hi12
    simp only [List.range, List.range.loop, List.mem_cons, List.not_mem_nil, or_false] at h12
    obtain ⟨f, rfl, hcm, hf⟩ := hj.opened [8, 9, 10, 11, 12, 13, 14, 15, 2] (by kernel_rfl)
    replace hcm : CJ W0 9 w.heap.size (w.heap.size + 1) #[.int .u8 (r.kind : Int), .int .i64 0, .int .i64 0, .int .i64 0, .int .u8 0, (.slice pS r.steps.length cS), (.slice pL r.after.length cL)] 29 listed f w9 := hcm
    rcases h12 with rfl | rfl | rfl | rfl | rfl | rfl | rfl | rfl | rfl | rfl
    · have nO : ¬ up listed 9 := fun h => not_up hun (hj.closed 9 0 h (by kernel_rfl))
      have bw := hcm.1 nO
      have klt := Nat.lt_of_lt_of_le lx bw.size
      refine GJ.op hj (by kernel_rfl) hr rfl [8, 9, 10, 11, 12, 13, 14, 15, 2] (by kernel_rfl) (fun K hK => ?_)
      simp only [Act.put, List.foldl_cons, List.foldl_nil, List.setIfInBounds_toArray, List.set_cons_zero, List.set_cons_succ] at hK ⊢
      clear hj hf
      go_simp
      exact hK _ _ (fun k v _ _ h => h.keep (Below.refl _ _)) (fun t ht => SJ.of (.eq (.pointer (some ⟨w.heap.size, 5, none⟩))) rfl rfl) (hcm.keep (Below.refl _ _) (by omega) HN.out)
    · have nO : ¬ up listed 9 := fun h => not_up hun (hj.closed 9 1 h (by kernel_rfl))
      have bw := hcm.1 nO
      have e1 : f 8 = .pointer (some ⟨w.heap.size, 5, none⟩) := hf 0 _ _ rfl rfl (up_dep hr (by kernel_rfl))
      have kx := keep_cell bw x5
      have ky := keep_cell bw x6
      have klt := Nat.lt_of_lt_of_le lx bw.size
      refine GJ.op hj (by kernel_rfl) hr rfl [8, 9, 10, 11, 12, 13, 14, 15, 2] (by kernel_rfl) (fun K hK => ?_)
      simp only [Act.put, List.foldl_cons, List.foldl_nil, List.setIfInBounds_toArray, List.set_cons_zero, List.set_cons_succ] at hK ⊢
      clear hj hf
      rw [e1] at hK ⊢
      clear e1
      go_simp
      exact hK _ _ (fun k v _ _ h => h.keep (Below.refl _ _)) (fun t ht => SJ.of (.eq (.agg #[(.slice pS r.steps.length cS), (.slice pL r.after.length cL)])) rfl rfl) (hcm.keep (Below.refl _ _) (by omega) HN.out)
    · have nO : ¬ up listed 9 := fun h => not_up hun (hj.closed 9 2 h (by kernel_rfl))
      have bw := hcm.1 nO
      have e1 : f 9 = .agg #[(.slice pS r.steps.length cS), (.slice pL r.after.length cL)] := hf 1 _ _ rfl rfl (up_dep hr (by kernel_rfl))
      have hbz := Nat.le_trans HN3.out bw.size
      refine GJ.op hj (by kernel_rfl) hr rfl [8, 9, 10, 11, 12, 13, 14, 15, 2] (by kernel_rfl) (fun K hK => ?_)
      simp only [Act.put, List.foldl_cons, List.foldl_nil, List.setIfInBounds_toArray, List.set_cons_zero, List.set_cons_succ] at hK ⊢
      clear hj hf
      rw [e1] at hK ⊢
      clear e1
      go_simp
      refine (flat_c w9 (.slice pS r.steps.length cS) (.slice pL r.after.length cL) r.steps r.after (H1.out.after bw) (H2.out.after bw) HS.out HA.out HLS.out).mono ?_
      rintro e w11 ⟨v11, rfl, hv11, hb11⟩
      exact hK _ _ (fun k v _ _ h => h.keep hb11) (fun t ht => SJ.of (.own (planned r.steps r.after)) rfl (hv11.le hbz)) (hcm.keep hb11 (by omega) HN.out)
    · have nO : ¬ up listed 9 := fun h => not_up hun (hj.closed 9 3 h (by kernel_rfl))
      have bw := hcm.1 nO
      have klt := Nat.lt_of_lt_of_le lx bw.size
      refine GJ.op hj (by kernel_rfl) hr rfl [8, 9, 10, 11, 12, 13, 14, 15, 2] (by kernel_rfl) (fun K hK => ?_)
      simp only [Act.put, List.foldl_cons, List.foldl_nil, List.setIfInBounds_toArray, List.set_cons_zero, List.set_cons_succ] at hK ⊢
      clear hj hf
      go_simp
      exact hK _ _ (fun k v _ _ h => h.keep (Below.refl _ _)) (fun t ht => SJ.of (.eq (.pointer (some ⟨w.heap.size, 0, none⟩))) rfl rfl) (hcm.keep (Below.refl _ _) (by omega) HN.out)
    · have nO : ¬ up listed 9 := fun h => not_up hun (hj.closed 9 4 h (by kernel_rfl))
      have bw := hcm.1 nO
      have e1 : f 11 = .pointer (some ⟨w.heap.size, 0, none⟩) := hf 3 _ _ rfl rfl (up_dep hr (by kernel_rfl))
      have kx := keep_cell bw x0
      have klt := Nat.lt_of_lt_of_le lx bw.size
      refine GJ.op hj (by kernel_rfl) hr rfl [8, 9, 10, 11, 12, 13, 14, 15, 2] (by kernel_rfl) (fun K hK => ?_)
      simp only [Act.put, List.foldl_cons, List.foldl_nil, List.setIfInBounds_toArray, List.set_cons_zero, List.set_cons_succ] at hK ⊢
      clear hj hf
      rw [e1] at hK ⊢
      clear e1
      go_simp
      exact hK _ _ (fun k v _ _ h => h.keep (Below.refl _ _)) (fun t ht => SJ.of (.eq (.int .u8 (r.kind : Int))) rfl rfl) (hcm.keep (Below.refl _ _) (by omega) HN.out)
    · have nO : ¬ up listed 9 := fun h => not_up hun (hj.closed 9 5 h (by kernel_rfl))
      have bw := hcm.1 nO
      have klt := Nat.lt_of_lt_of_le lx bw.size
      refine GJ.op hj (by kernel_rfl) hr rfl [8, 9, 10, 11, 12, 13, 14, 15, 2] (by kernel_rfl) (fun K hK => ?_)
      simp only [Act.put, List.foldl_cons, List.foldl_nil, List.setIfInBounds_toArray, List.set_cons_zero, List.set_cons_succ] at hK ⊢
      clear hj hf
      go_simp
      exact hK _ _ (fun k v _ _ h => h.keep (Below.refl _ _)) (fun t ht => SJ.of (.eq (.pointer (some ⟨w.heap.size, 5, none⟩))) rfl rfl) (hcm.keep (Below.refl _ _) (by omega) HN.out)
    · have nO : ¬ up listed 9 := fun h => not_up hun (hj.closed 9 6 h (by kernel_rfl))
      have bw := hcm.1 nO
      have e1 : f 13 = .pointer (some ⟨w.heap.size, 5, none⟩) := hf 5 _ _ rfl rfl (up_dep hr (by kernel_rfl))
      have kx := keep_cell bw x5
      have ky := keep_cell bw x6
      have klt := Nat.lt_of_lt_of_le lx bw.size
      refine GJ.op hj (by kernel_rfl) hr rfl [8, 9, 10, 11, 12, 13, 14, 15, 2] (by kernel_rfl) (fun K hK => ?_)
      simp only [Act.put, List.foldl_cons, List.foldl_nil, List.setIfInBounds_toArray, List.set_cons_zero, List.set_cons_succ] at hK ⊢
      clear hj hf
      rw [e1] at hK ⊢
      clear e1
      go_simp
      exact hK _ _ (fun k v _ _ h => h.keep (Below.refl _ _)) (fun t ht => SJ.of (.eq (.agg #[(.slice pS r.steps.length cS), (.slice pL r.after.length cL)])) rfl rfl) (hcm.keep (Below.refl _ _) (by omega) HN.out)
    · have nO : ¬ up listed 9 := fun h => not_up hun (hj.closed 9 7 h (by kernel_rfl))
      have bw := hcm.1 nO
      have e1 : f 12 = .int .u8 (r.kind : Int) := hf 4 _ _ rfl rfl (up_dep hr (by kernel_rfl))
      have e2 : f 14 = .agg #[(.slice pS r.steps.length cS), (.slice pL r.after.length cL)] := hf 6 _ _ rfl rfl (up_dep hr (by kernel_rfl))
      refine GJ.op hj (by kernel_rfl) hr rfl [8, 9, 10, 11, 12, 13, 14, 15, 2] (by kernel_rfl) (fun K hK => ?_)
      simp only [Act.put, List.foldl_cons, List.foldl_nil, List.setIfInBounds_toArray, List.set_cons_zero, List.set_cons_succ] at hK ⊢
      clear hj hf
      rw [e1, e2] at hK ⊢
      clear e1 e2
      go_simp
      exact hK _ _ (fun k v _ _ h => h.keep (Below.refl _ _)) (fun t ht => SJ.of (.eq (.agg #[.int .u8 (r.kind : Int), .int .i64 0, .int .i64 0, .int .i64 0, .int .u8 0, (.slice pS r.steps.length cS), (.slice pL r.after.length cL)])) rfl rfl) (hcm.keep (Below.refl _ _) (by omega) HN.out)
    · have nO : ¬ up listed 9 := fun h => not_up hun (hj.closed 9 8 h (by kernel_rfl))
      have bw := hcm.1 nO
      have s1 : OwnI w9 N2 (f 10) (planned r.steps r.after) := hf 2 _ _ rfl rfl (up_dep hr (by kernel_rfl))
      refine GJ.op hj (by kernel_rfl) hr rfl [8, 9, 10, 11, 12, 13, 14, 15, 2] (by kernel_rfl) (fun K hK => ?_)
      simp only [Act.put, List.foldl_cons, List.foldl_nil, List.setIfInBounds_toArray, List.set_cons_zero, List.set_cons_succ] at hK ⊢
      clear hj hf
      go_simp
      exact hK _ _ (fun k v _ _ h => h.keep (Below.refl _ _)) (fun t ht => SJ.of (.own (planned r.steps r.after)) rfl s1) (hcm.keep (Below.refl _ _) (by omega) HN.out)
    · have nO := not_up hun
      have bw := hcm.1 nO
      have bxw := BY.out.after bw
      have e1 : f 15 = .agg #[.int .u8 (r.kind : Int), .int .i64 0, .int .i64 0, .int .i64 0, .int .u8 0, (.slice pS r.steps.length cS), (.slice pL r.after.length cL)] := hf 7 _ _ rfl rfl (up_dep hr (by kernel_rfl))
      have hsz7 := hj.lsize
      have hlt : 9 < listed.size := by rw [hsz7]; decide
      refine GJ.op hj (by kernel_rfl) hr rfl [8, 9, 10, 11, 12, 13, 14, 15, 2] (by kernel_rfl) (fun K hK => ?_)
      simp only [Act.put, List.foldl_cons, List.foldl_nil, List.setIfInBounds_toArray, List.set_cons_zero, List.set_cons_succ] at hK ⊢
      clear hj hf
      rw [e1] at hK ⊢
      clear e1
      have g0 := bxw.frozen 0
      have g1 := bxw.frozen 1
      have g2 := bxw.frozen 2
      have g3 := bxw.frozen 3
      have g4 := bxw.frozen 4
      have g5 := bxw.frozen 5
      have g6 := bxw.frozen 6
      have y0 : w9.cell? ⟨w.heap.size + 1, 0, none⟩ = some (.int .u8 0) := bxw.cell 0
      have y1 : w9.cell? ⟨w.heap.size + 1, 1, none⟩ = some (.int .i64 0) := bxw.cell 1
      have y2 : w9.cell? ⟨w.heap.size + 1, 2, none⟩ = some (.int .i64 0) := bxw.cell 2
      have y3 : w9.cell? ⟨w.heap.size + 1, 3, none⟩ = some (.int .i64 0) := bxw.cell 3
      have y4 : w9.cell? ⟨w.heap.size + 1, 4, none⟩ = some (.int .u8 0) := bxw.cell 4
      have y5 : w9.cell? ⟨w.heap.size + 1, 5, none⟩ = some (.slice none 0 0) := bxw.cell 5
      have y6 : w9.cell? ⟨w.heap.size + 1, 6, none⟩ = some (.slice none 0 0) := bxw.cell 6
      have yl := bxw.lt
      have BXW := Lib.hid bxw
      clear bxw
      go_simp
      exact hK undef _ (fun k v _ _ h => h.far7 HN2.out) (fun t ht => by cases ht) (hcm.put7 nO hlt (by omega) HN.out BXW.out)
  · intro listed a w10 hr hj
    have hu : ∀ k, k < 10 → up listed k := fun k hk => all_up (by kernel_rfl) hj.lsize hr k hk
    obtain ⟨f, rfl, hcm, hf⟩ := hj.opened [8, 9, 10, 11, 12, 13, 14, 15, 2] (by kernel_rfl)
    replace hcm : CJ W0 9 w.heap.size (w.heap.size + 1) #[.int .u8 (r.kind : Int), .int .i64 0, .int .i64 0, .int .i64 0, .int .u8 0, (.slice pS r.steps.length cS), (.slice pL r.after.length cL)] 29 listed f w10 := hcm
    obtain ⟨hbl, HE0⟩ := hcm.2 (hu 9 (by omega))
    have HO : Hid (OwnI w10 N2 (f 2) (planned r.steps r.after)) := hf 8 _ _ rfl rfl (hu 8 (by omega))
    have HB1 : Hid (Below w.heap.size w w10) := HB.out.trans hbl
    have HE := Lib.hid HE0
    clear hf hj hr hu hcm hbl HE0
    simp only [List.foldl_cons, List.foldl_nil, List.setIfInBounds_toArray, List.set_cons_zero, List.set_cons_succ]
    obtain ⟨v2, hv2⟩ : ∃ v, f 2 = v := ⟨_, rfl⟩
    rw [hv2] at HO ⊢
    clear hv2
    generalize f 8 = g8
    generalize f 9 = g9
    generalize f 10 = g10
    generalize f 11 = g11
    generalize f 12 = g12
    generalize f 13 = g13
    generalize f 14 = g14
    generalize f 15 = g15
    clear f
    go_wp2_with fail
    have z0 := HE.out.cell 0
    have z1 := HE.out.cell 1
    have z2 := HE.out.cell 2
    have z3 := HE.out.cell 3
    have z4 := HE.out.cell 4
    have z5 := HE.out.cell 5
    have z6 := HE.out.cell 6
    refine bodyPost_ret (v := .tuple #[v2, .agg #[.int .u8 (r.kind : Int), .int .i64 0, .int .i64 0, .int .i64 0, .int .u8 0, (.slice pS r.steps.length cS), (.slice pL r.after.length cL)]]) (by simp [results, Tryz.results25, go_sem, z0, z1, z2, z3, z4, z5, z6]) rfl ?_
    refine ⟨_, _, rfl, by rw [EN.out]; exact HO.out.sl, ?_, HB1.out⟩
    rw [EB.out]
    exact ⟨⟨HOK.out.1, (by constructor <;> simp), (by constructor <;> simp), (by constructor <;> simp), by simp⟩, _, _, rfl, HS1.out.after HB1.out, HS2.out.after HB1.out⟩

set_option maxRecDepth 100000 in
set_option maxHeartbeats 2000000 in
theorem numbers0_c (w : World) (v : Value) (r : Rec) (h : IsR w v r) (hs : r.steps.length ≤ 12) (ha : r.after.length ≤ 12) (hls : ∀ a ∈ r.after, a.length ≤ 12) (e1 : r.kind ≠ 1) (e2 : r.kind ≠ 2) (e3 : r.kind ≠ 3) :
    Calls Tryz.prog 25 #[v] w (RetNum w r) := by
  obtain ⟨hok, vs, va, rfl, h1, h2⟩ := h
  obtain ⟨W0, hW, bx, by', hsz, hb0⟩ := start2 w (recV r vs va) zeroV 29
  have H1 := Lib.hid (h1.after hb0)
  have H2 := Lib.hid (h2.after hb0)
  have HS1 := Lib.hid h1
  have HS2 := Lib.hid h2
  have HB := Lib.hid hb0
  have BX := Lib.hid bx
  have BY := Lib.hid by'
  have HOK := Lib.hid hok
  have HS := Lib.hid hs
  have HA := Lib.hid ha
  have HLS := Lib.hid hls
  have x0 : W0.cell? ⟨w.heap.size, 0, none⟩ = some (.int .u8 (r.kind : Int)) := bx.cell 0
  have x1 : W0.cell? ⟨w.heap.size, 1, none⟩ = some (.int .i64 r.place) := bx.cell 1
  have x2 : W0.cell? ⟨w.heap.size, 2, none⟩ = some (.int .i64 r.id) := bx.cell 2
  have x3 : W0.cell? ⟨w.heap.size, 3, none⟩ = some (.int .i64 r.lease) := bx.cell 3
  have x4 : W0.cell? ⟨w.heap.size, 4, none⟩ = some (.int .u8 (r.ans : Int)) := bx.cell 4
  have x5 : W0.cell? ⟨w.heap.size, 5, none⟩ = some vs := bx.cell 5
  have x6 : W0.cell? ⟨w.heap.size, 6, none⟩ = some va := bx.cell 6
  have lx := bx.lt
  have ly := by'.lt
  have hW' : W0 = (w.alloc (.cells #[.int .u8 (r.kind : Int), .int .i64 r.place, .int .i64 r.id, .int .i64 r.lease, .int .u8 (r.ans : Int), vs, va] 29)).alloc (.cells #[.int .u8 0, .int .i64 0, .int .i64 0, .int .i64 0, .int .u8 0, .slice none 0 0, .slice none 0 0] 29) := hW
  have HN : Hid (w.heap.size ≤ W0.heap.size) := by show _ ≤ _; omega
  obtain ⟨N2, hN2⟩ : ∃ N2, w.heap.size + 2 = N2 := ⟨_, rfl⟩
  have HN2 : Hid (w.heap.size + 1 < N2) := by show _ < _; omega
  have HN3 : Hid (N2 ≤ W0.heap.size) := by show _ ≤ _; omega
  clear hW hN2 hsz
  have hW := hW'
  clear hW' h1 h2 hb0 bx by' hok hls hs ha
  show Calls _ _ #[.agg #[.int .u8 (r.kind : Int), .int .i64 r.place, .int .i64 r.id, .int .i64 r.lease, .int .u8 (r.ans : Int), vs, va]] w _
  have q1 : ((r.kind : Int) == 1) = false := by rw [beq_eq_false_iff_ne]; omega
  have q2 : ((r.kind : Int) == 2) = false := by rw [beq_eq_false_iff_ne]; omega
  have q3 : ((r.kind : Int) == 3) = false := by rw [beq_eq_false_iff_ne]; omega
  go_enter Tryz.func25, Tryz.ntmps25
  go_upto_region 1 with fail
  rw [← hW]
  clear hW
  go_upto_region 8 with fail
  have s0 : W0.cell? ⟨w.heap.size + 1, 0, none⟩ = some (.int .u8 0) := BY.out.cell 0
  have s1 : W0.cell? ⟨w.heap.size + 1, 1, none⟩ = some (.int .i64 0) := BY.out.cell 1
  have s2 : W0.cell? ⟨w.heap.size + 1, 2, none⟩ = some (.int .i64 0) := BY.out.cell 2
  have s3 : W0.cell? ⟨w.heap.size + 1, 3, none⟩ = some (.int .i64 0) := BY.out.cell 3
  have s4 : W0.cell? ⟨w.heap.size + 1, 4, none⟩ = some (.int .u8 0) := BY.out.cell 4
  have s5 : W0.cell? ⟨w.heap.size + 1, 5, none⟩ = some (.slice none 0 0) := BY.out.cell 5
  have s6 : W0.cell? ⟨w.heap.size + 1, 6, none⟩ = some (.slice none 0 0) := BY.out.cell 6
  have g0 := BY.out.frozen 0
  have g1 := BY.out.frozen 1
  have g2 := BY.out.frozen 2
  have g3 := BY.out.frozen 3
  have g4 := BY.out.frozen 4
  have g5 := BY.out.frozen 5
  have g6 := BY.out.frozen 6
  have en : numsOf r = [] := by unfold numsOf; split <;> first | (exfalso; omega) | rfl
  have eb : bareR r = ⟨r.kind, 0, 0, 0, 0, [], []⟩ := by unfold bareR; split <;> first | (exfalso; omega) | rfl
  have EN := Lib.hid en
  have EB := Lib.hid eb
  clear en eb
  go_region_with (fail)
  all_goals
    (go_wp2_with fail
     have HE := (end7 (a := .int .u8 (r.kind : Int)) (b := .int .i64 0) (c := .int .i64 0) (d := .int .i64 0) (e := .int .u8 0) (f := .slice none 0 0) (g := .slice none 0 0) BY.out).after (below_dr (Below.refl _ _))
     have hb := below_dr (below7 (a := .int .u8 (r.kind : Int)) (b := .int .i64 0) (c := .int .i64 0) (d := .int .i64 0) (e := .int .u8 0) (f := .slice none 0 0) (g := .slice none 0 0) HB.out (Nat.le_succ w.heap.size))
     refine (show (∀ WE, Box WE (w.heap.size + 1) #[.int .u8 (r.kind : Int), .int .i64 0, .int .i64 0, .int .i64 0, .int .u8 0, .slice none 0 0, .slice none 0 0] 29 → Below w.heap.size w WE → bodyPost Tryz.prog _ (RetNum w r) Exit.ret _ WE) → _ from fun H => H _ HE hb) ?_
     clear HE hb
     intro WE HE hb
     have z0 := HE.cell 0
     have z1 := HE.cell 1
     have z2 := HE.cell 2
     have z3 := HE.cell 3
     have z4 := HE.cell 4
     have z5 := HE.cell 5
     have z6 := HE.cell 6
     refine bodyPost_ret (v := .tuple #[.slice none 0 0, .agg #[.int .u8 (r.kind : Int), .int .i64 0, .int .i64 0, .int .i64 0, .int .u8 0, .slice none 0 0, .slice none 0 0]]) (by simp [results, Tryz.results25, go_sem, z0, z1, z2, z3, z4, z5, z6]) rfl ?_
     refine ⟨_, _, rfl, by rw [EN.out]; exact SlI.nil _, ?_, hb⟩
     rw [EB.out]
     exact ⟨⟨HOK.out.1, by constructor <;> simp, by constructor <;> simp, by constructor <;> simp, by simp⟩, _, _, rfl, SlS.nil _, SlL.nil _⟩)
theorem numbers_c (w : World) (v : Value) (r : Rec) (h : IsR w v r) (hs : r.steps.length ≤ 12) (ha : r.after.length ≤ 12) (hls : ∀ a ∈ r.after, a.length ≤ 12) :
    Calls Tryz.prog 25 #[v] w (RetNum w r) := by
  by_cases e1 : r.kind = 1
  · exact numbers1_c w v r h hs ha hls e1
  by_cases e2 : r.kind = 2
  · exact numbers2_c w v r h hs ha hls e2
  by_cases e3 : r.kind = 3
  · exact numbers3_c w v r h hs ha hls e3
  exact numbers0_c w v r h hs ha hls e1 e2 e3
end Go.Proofs.YtpaoeeamlinaaaaGreatDoor
