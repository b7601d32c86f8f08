/- Walks of the reference: whole. -/
import Derived.Test.YtaojdlcailpheaaQVF
set_option linter.unusedVariables false
namespace Go.Proofs.Ytaojdlcailpheaa
open Go.RowKit

theorem Sl_1 (w : World) : Sl (w.alloc (.cells #[.int .u32 1] 51)) (.slice (some ⟨w.heap.size, 0, none⟩) 1 1) (limbs 1) := by
  rw [limbs_small (by omega) (by omega)]
  exact Sl.of_row (l := [1]) (Row32.lit1 w 1 1 rfl) (Lb.cons (by omega) Lb.nil) (by simp) (by omega)
theorem Sl_1s (w : World) (b : Nat) (x y z : Value) : Sl ((((w.setCell ⟨b, 0, none⟩ x).setCell ⟨b, 1, none⟩ y).setCell ⟨b, 2, none⟩ z).alloc (.cells #[.int .u32 1] 51)) (.slice (some ⟨w.heap.size, 0, none⟩) 1 1) (limbs 1) := by
  have h := Sl_1 (((w.setCell ⟨b, 0, none⟩ x).setCell ⟨b, 1, none⟩ y).setCell ⟨b, 2, none⟩ z)
  rw [set3_size] at h
  exact h
set_option maxRecDepth 100000 in
set_option maxHeartbeats 1000000 in
theorem rwhole_c (w : World) (v : Value) (n : Nat) (h : Sl w v (limbs n)) : Calls Try.prog 80 #[v] w (RetF1 w (fr false n 1)) := by
  obtain ⟨p, c, rfl, _, _⟩ := h.shape
  obtain ⟨W0, hW⟩ : ∃ W0, W0 = w.alloc (.cells #[.bool false, .slice none 0 0, .slice none 0 0] 25) := ⟨_, rfl⟩
  have hb0 : Below w.heap.size w W0 := hW ▸ held_alloc (Below.refl _ w)
  have br : Box W0 w.heap.size #[.bool false, .slice none 0 0, .slice none 0 0] 25 := hW ▸ Box.new w _ _
  have H := Lib.hid (h.after hb0)
  have BR := Lib.hid br
  have HB := Lib.hid hb0
  obtain ⟨r0, r1, r2⟩ := br.cells3
  have f0 := br.frozen 0
  have f1 := br.frozen 1
  have f2 := br.frozen 2
  have hl := br.lt
  clear h hb0 br
  go_enter Try.func80, Try.ntmps80
  go_upto_region 1 with fail
  rw [← hW]
  clear hW
  go_wp2_with fail
  obtain ⟨y0, y1, y2⟩ := ((end_box BR.out (y0 := .bool false) (y1 := .slice p (limbs n).length c) (y2 := .slice (some ⟨W0.heap.size, 0, none⟩) 1 1)).alloc (.cells #[.int .u32 1] 51)).cells3
  refine bodyPost_ret (v := .agg #[.bool false, .slice p (limbs n).length c, .slice (some ⟨W0.heap.size, 0, none⟩) 1 1]) (by simp [results, Try.results80, go_sem, y0, y1, y2]) rfl ?_
  refine ⟨_, rfl, ⟨_, _, rfl, (H.out.fx (fx_set3 _ _ _ _) BR.out.noT).alloc _, Sl_1s _ _ _ _ _⟩, ?_⟩
  exact (((HB.out.setCell (Nat.le_refl _) _).setCell (Nat.le_refl _) _).setCell (Nat.le_refl _) _).alloc (by simp; omega) _
end Go.Proofs.Ytaojdlcailpheaa
