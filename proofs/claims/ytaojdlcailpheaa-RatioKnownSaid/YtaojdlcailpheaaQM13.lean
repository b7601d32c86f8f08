/- The walk of RatioKnown: the examples, limits and errors. -/
import Derived.Test.YtaojdlcailpheaaQM5
import Derived.Test.YtaojdlcailpheaaQKp
import Derived.Test.YtaojdlcailpheaaQGl
set_option linter.unusedVariables false
namespace Go.Proofs.Ytaojdlcailpheaa
open Go.RowKit

theorem rep_step {i : Nat} (h : i < 32) : (List.replicate i 4294967295 ++ List.replicate (32 - i) 0).set i 4294967295 = List.replicate (i + 1) 4294967295 ++ List.replicate (32 - (i + 1)) 0 := by
  rw [List.set_append_right _ _ (by simp), List.length_replicate, Nat.sub_self]
  obtain ⟨k, hk⟩ : ∃ k, 32 - i = k + 1 := ⟨31 - i, by omega⟩
  rw [hk, List.replicate_succ, List.set_cons_zero, List.replicate_succ', List.append_assoc, show 32 - (i + 1) = k by omega]
  rfl
theorem odd_start (w : World) : ∃ W, W = (((((((((w.alloc (.cells #[.int .u32 0] 51)).alloc (.cells #[.int .u32 1] 51)).alloc (.cells #[.int .u32 2] 51)).alloc (.cells #[.int .u32 4] 51)).alloc (.cells #[.int .u32 1] 51)).alloc (.cells (mk32 33) 51)).alloc (.cells #[.int .u32 1] 51)).alloc (.cells #[.int .u32 1] 51)).alloc (.cells #[.int .u32 2] 51)).alloc (.cells #[.bool false, .slice none 0 0, .slice none 0 0, .bool false, .slice (some ⟨w.heap.size, 0, none⟩) 1 1, .slice (some ⟨(w.heap.size + 1), 0, none⟩) 1 1, .bool false, .slice (some ⟨(w.heap.size + 1 + 1), 0, none⟩) 1 1, .slice (some ⟨(w.heap.size + 1 + 1 + 1), 0, none⟩) 1 1, .bool true, .slice none 0 0, .slice (some ⟨(w.heap.size + 1 + 1 + 1 + 1), 0, none⟩) 1 1, .bool false, .slice (some ⟨(w.heap.size + 1 + 1 + 1 + 1 + 1), 0, none⟩) 33 33, .slice (some ⟨(w.heap.size + 1 + 1 + 1 + 1 + 1 + 1), 0, none⟩) 1 1, .bool false, .slice (some ⟨(w.heap.size + 1 + 1 + 1 + 1 + 1 + 1 + 1), 0, none⟩) 1 1, .slice none 0 0, .bool false, .slice none 0 0, .slice (some ⟨(w.heap.size + 1 + 1 + 1 + 1 + 1 + 1 + 1 + 1), 0, none⟩) 1 1] 25) ∧
    Row32 W (w.heap.size) [0] ∧ Row32 W (w.heap.size + 1) [1] ∧ Row32 W (w.heap.size + 1 + 1) [2] ∧ Row32 W (w.heap.size + 1 + 1 + 1) [4] ∧ Row32 W (w.heap.size + 1 + 1 + 1 + 1) [1] ∧ Row32 W (w.heap.size + 1 + 1 + 1 + 1 + 1) (List.replicate 33 0) ∧ Row32 W (w.heap.size + 1 + 1 + 1 + 1 + 1 + 1) [1] ∧ Row32 W (w.heap.size + 1 + 1 + 1 + 1 + 1 + 1 + 1) [1] ∧ Row32 W (w.heap.size + 1 + 1 + 1 + 1 + 1 + 1 + 1 + 1) [2] ∧ Box W (w.heap.size + 1 + 1 + 1 + 1 + 1 + 1 + 1 + 1 + 1) #[.bool false, .slice none 0 0, .slice none 0 0, .bool false, .slice (some ⟨w.heap.size, 0, none⟩) 1 1, .slice (some ⟨(w.heap.size + 1), 0, none⟩) 1 1, .bool false, .slice (some ⟨(w.heap.size + 1 + 1), 0, none⟩) 1 1, .slice (some ⟨(w.heap.size + 1 + 1 + 1), 0, none⟩) 1 1, .bool true, .slice none 0 0, .slice (some ⟨(w.heap.size + 1 + 1 + 1 + 1), 0, none⟩) 1 1, .bool false, .slice (some ⟨(w.heap.size + 1 + 1 + 1 + 1 + 1), 0, none⟩) 33 33, .slice (some ⟨(w.heap.size + 1 + 1 + 1 + 1 + 1 + 1), 0, none⟩) 1 1, .bool false, .slice (some ⟨(w.heap.size + 1 + 1 + 1 + 1 + 1 + 1 + 1), 0, none⟩) 1 1, .slice none 0 0, .bool false, .slice none 0 0, .slice (some ⟨(w.heap.size + 1 + 1 + 1 + 1 + 1 + 1 + 1 + 1), 0, none⟩) 1 1] 25 ∧ Below w.heap.size w W := by
  refine ⟨_, rfl, ?_⟩
  obtain ⟨W1, e1⟩ : ∃ W, W = w.alloc (.cells #[.int .u32 0] 51) := ⟨_, rfl⟩
  have s1 : W1.heap.size = w.heap.size + 1 := by rw [e1, World.size_alloc]
  have r0 : Row32 W1 (w.heap.size) [0] := by rw [e1]; exact Row32.lit1 _ 0 _ rfl
  obtain ⟨W2, e2⟩ : ∃ W, W = W1.alloc (.cells #[.int .u32 1] 51) := ⟨_, rfl⟩
  have s2 : W2.heap.size = w.heap.size + 1 + 1 := by rw [e2, World.size_alloc]; rw [s1]
  have r1 : Row32 W2 (w.heap.size + 1) [1] := by rw [e2]; rw [← s1]; exact Row32.lit1 _ 1 _ rfl
  obtain ⟨W3, e3⟩ : ∃ W, W = W2.alloc (.cells #[.int .u32 2] 51) := ⟨_, rfl⟩
  have s3 : W3.heap.size = w.heap.size + 1 + 1 + 1 := by rw [e3, World.size_alloc]; rw [s2]
  have r2 : Row32 W3 (w.heap.size + 1 + 1) [2] := by rw [e3]; rw [← s2]; exact Row32.lit1 _ 2 _ rfl
  obtain ⟨W4, e4⟩ : ∃ W, W = W3.alloc (.cells #[.int .u32 4] 51) := ⟨_, rfl⟩
  have s4 : W4.heap.size = w.heap.size + 1 + 1 + 1 + 1 := by rw [e4, World.size_alloc]; rw [s3]
  have r3 : Row32 W4 (w.heap.size + 1 + 1 + 1) [4] := by rw [e4]; rw [← s3]; exact Row32.lit1 _ 4 _ rfl
  obtain ⟨W5, e5⟩ : ∃ W, W = W4.alloc (.cells #[.int .u32 1] 51) := ⟨_, rfl⟩
  have s5 : W5.heap.size = w.heap.size + 1 + 1 + 1 + 1 + 1 := by rw [e5, World.size_alloc]; rw [s4]
  have r4 : Row32 W5 (w.heap.size + 1 + 1 + 1 + 1) [1] := by rw [e5]; rw [← s4]; exact Row32.lit1 _ 1 _ rfl
  obtain ⟨W6, e6⟩ : ∃ W, W = W5.alloc (.cells (mk32 33) 51) := ⟨_, rfl⟩
  have s6 : W6.heap.size = w.heap.size + 1 + 1 + 1 + 1 + 1 + 1 := by rw [e6, World.size_alloc]; rw [s5]
  have r5 : Row32 W6 (w.heap.size + 1 + 1 + 1 + 1 + 1) (List.replicate 33 0) := by rw [e6]; rw [← s5]; exact Row32.made _ 33
  obtain ⟨W7, e7⟩ : ∃ W, W = W6.alloc (.cells #[.int .u32 1] 51) := ⟨_, rfl⟩
  have s7 : W7.heap.size = w.heap.size + 1 + 1 + 1 + 1 + 1 + 1 + 1 := by rw [e7, World.size_alloc]; rw [s6]
  have r6 : Row32 W7 (w.heap.size + 1 + 1 + 1 + 1 + 1 + 1) [1] := by rw [e7]; rw [← s6]; exact Row32.lit1 _ 1 _ rfl
  obtain ⟨W8, e8⟩ : ∃ W, W = W7.alloc (.cells #[.int .u32 1] 51) := ⟨_, rfl⟩
  have s8 : W8.heap.size = w.heap.size + 1 + 1 + 1 + 1 + 1 + 1 + 1 + 1 := by rw [e8, World.size_alloc]; rw [s7]
  have r7 : Row32 W8 (w.heap.size + 1 + 1 + 1 + 1 + 1 + 1 + 1) [1] := by rw [e8]; rw [← s7]; exact Row32.lit1 _ 1 _ rfl
  obtain ⟨W9, e9⟩ : ∃ W, W = W8.alloc (.cells #[.int .u32 2] 51) := ⟨_, rfl⟩
  have s9 : W9.heap.size = w.heap.size + 1 + 1 + 1 + 1 + 1 + 1 + 1 + 1 + 1 := by rw [e9, World.size_alloc]; rw [s8]
  have r8 : Row32 W9 (w.heap.size + 1 + 1 + 1 + 1 + 1 + 1 + 1 + 1) [2] := by rw [e9]; rw [← s8]; exact Row32.lit1 _ 2 _ rfl
  rw [← e1, ← e2, ← e3, ← e4, ← e5, ← e6, ← e7, ← e8, ← e9]
  replace r0 : Row32 W2 (w.heap.size) [0] := by rw [e2]; exact r0.alloc _
  replace r0 : Row32 W3 (w.heap.size) [0] := by rw [e3]; exact r0.alloc _
  replace r0 : Row32 W4 (w.heap.size) [0] := by rw [e4]; exact r0.alloc _
  replace r0 : Row32 W5 (w.heap.size) [0] := by rw [e5]; exact r0.alloc _
  replace r0 : Row32 W6 (w.heap.size) [0] := by rw [e6]; exact r0.alloc _
  replace r0 : Row32 W7 (w.heap.size) [0] := by rw [e7]; exact r0.alloc _
  replace r0 : Row32 W8 (w.heap.size) [0] := by rw [e8]; exact r0.alloc _
  replace r0 : Row32 W9 (w.heap.size) [0] := by rw [e9]; exact r0.alloc _
  replace r1 : Row32 W3 (w.heap.size + 1) [1] := by rw [e3]; exact r1.alloc _
  replace r1 : Row32 W4 (w.heap.size + 1) [1] := by rw [e4]; exact r1.alloc _
  replace r1 : Row32 W5 (w.heap.size + 1) [1] := by rw [e5]; exact r1.alloc _
  replace r1 : Row32 W6 (w.heap.size + 1) [1] := by rw [e6]; exact r1.alloc _
  replace r1 : Row32 W7 (w.heap.size + 1) [1] := by rw [e7]; exact r1.alloc _
  replace r1 : Row32 W8 (w.heap.size + 1) [1] := by rw [e8]; exact r1.alloc _
  replace r1 : Row32 W9 (w.heap.size + 1) [1] := by rw [e9]; exact r1.alloc _
  replace r2 : Row32 W4 (w.heap.size + 1 + 1) [2] := by rw [e4]; exact r2.alloc _
  replace r2 : Row32 W5 (w.heap.size + 1 + 1) [2] := by rw [e5]; exact r2.alloc _
  replace r2 : Row32 W6 (w.heap.size + 1 + 1) [2] := by rw [e6]; exact r2.alloc _
  replace r2 : Row32 W7 (w.heap.size + 1 + 1) [2] := by rw [e7]; exact r2.alloc _
  replace r2 : Row32 W8 (w.heap.size + 1 + 1) [2] := by rw [e8]; exact r2.alloc _
  replace r2 : Row32 W9 (w.heap.size + 1 + 1) [2] := by rw [e9]; exact r2.alloc _
  replace r3 : Row32 W5 (w.heap.size + 1 + 1 + 1) [4] := by rw [e5]; exact r3.alloc _
  replace r3 : Row32 W6 (w.heap.size + 1 + 1 + 1) [4] := by rw [e6]; exact r3.alloc _
  replace r3 : Row32 W7 (w.heap.size + 1 + 1 + 1) [4] := by rw [e7]; exact r3.alloc _
  replace r3 : Row32 W8 (w.heap.size + 1 + 1 + 1) [4] := by rw [e8]; exact r3.alloc _
  replace r3 : Row32 W9 (w.heap.size + 1 + 1 + 1) [4] := by rw [e9]; exact r3.alloc _
  replace r4 : Row32 W6 (w.heap.size + 1 + 1 + 1 + 1) [1] := by rw [e6]; exact r4.alloc _
  replace r4 : Row32 W7 (w.heap.size + 1 + 1 + 1 + 1) [1] := by rw [e7]; exact r4.alloc _
  replace r4 : Row32 W8 (w.heap.size + 1 + 1 + 1 + 1) [1] := by rw [e8]; exact r4.alloc _
  replace r4 : Row32 W9 (w.heap.size + 1 + 1 + 1 + 1) [1] := by rw [e9]; exact r4.alloc _
  replace r5 : Row32 W7 (w.heap.size + 1 + 1 + 1 + 1 + 1) (List.replicate 33 0) := by rw [e7]; exact r5.alloc _
  replace r5 : Row32 W8 (w.heap.size + 1 + 1 + 1 + 1 + 1) (List.replicate 33 0) := by rw [e8]; exact r5.alloc _
  replace r5 : Row32 W9 (w.heap.size + 1 + 1 + 1 + 1 + 1) (List.replicate 33 0) := by rw [e9]; exact r5.alloc _
  replace r6 : Row32 W8 (w.heap.size + 1 + 1 + 1 + 1 + 1 + 1) [1] := by rw [e8]; exact r6.alloc _
  replace r6 : Row32 W9 (w.heap.size + 1 + 1 + 1 + 1 + 1 + 1) [1] := by rw [e9]; exact r6.alloc _
  replace r7 : Row32 W9 (w.heap.size + 1 + 1 + 1 + 1 + 1 + 1 + 1) [1] := by rw [e9]; exact r7.alloc _
  refine ⟨r0.alloc _, r1.alloc _, r2.alloc _, r3.alloc _, r4.alloc _, r5.alloc _, r6.alloc _, r7.alloc _, r8.alloc _, ?_, ?_⟩
  · rw [← s9]; exact Box.new _ _ _
  · have h1 : Below w.heap.size w W1 := e1 ▸ held_alloc (Below.refl _ w)
    have h2 : Below w.heap.size w W2 := e2 ▸ held_alloc h1
    have h3 : Below w.heap.size w W3 := e3 ▸ held_alloc h2
    have h4 : Below w.heap.size w W4 := e4 ▸ held_alloc h3
    have h5 : Below w.heap.size w W5 := e5 ▸ held_alloc h4
    have h6 : Below w.heap.size w W6 := e6 ▸ held_alloc h5
    have h7 : Below w.heap.size w W7 := e7 ▸ held_alloc h6
    have h8 : Below w.heap.size w W8 := e8 ▸ held_alloc h7
    have h9 : Below w.heap.size w W9 := e9 ▸ held_alloc h8
    exact held_alloc h9
theorem odd_cells {w : World} {b : Nat} {t : TypeId} (h : Box w b #[.string ⟨#[]⟩, .string ⟨#[47]⟩, .string ⟨#[49]⟩, .string ⟨#[49, 47]⟩, .string ⟨#[47, 49]⟩, .string ⟨#[54, 47, 52]⟩, .string ⟨#[45, 48, 47, 49]⟩, .string ⟨#[48, 49, 47, 50]⟩, .string ⟨#[49, 47, 48, 50]⟩, .string ⟨#[43, 49, 47, 50]⟩, .string ⟨#[49, 47, 50, 32]⟩, .string ⟨#[49, 47, 48]⟩, .string ⟨#[48, 47, 50]⟩, .string ⟨#[45, 45, 49, 47, 50]⟩, .string ⟨#[49, 47, 45, 50]⟩, .string ⟨#[49, 47, 50, 47, 51]⟩] t) (j : Nat) (hj : j < 16) : w.cell? ⟨b, j, none⟩ = some (.string (bs (oddT j))) := by
  match j, hj with
  | 0, _ => exact h.cell 0
  | 1, _ => exact h.cell 1
  | 2, _ => exact h.cell 2
  | 3, _ => exact h.cell 3
  | 4, _ => exact h.cell 4
  | 5, _ => exact h.cell 5
  | 6, _ => exact h.cell 6
  | 7, _ => exact h.cell 7
  | 8, _ => exact h.cell 8
  | 9, _ => exact h.cell 9
  | 10, _ => exact h.cell 10
  | 11, _ => exact h.cell 11
  | 12, _ => exact h.cell 12
  | 13, _ => exact h.cell 13
  | 14, _ => exact h.cell 14
  | 15, _ => exact h.cell 15
  | _ + 16, hj => exact absurd hj (by omega)
theorem oddT_len (j : Nat) : (oddT j).length ≤ 1000000000 := by
  unfold oddT
  split <;> simp
theorem sl_first {w : World} {v : Value} {x : Nat} {l m : List Nat} (hm : m = x :: l) (h : Sl w v m) : ∃ b off cap, v = .slice (some ⟨b, off, none⟩) m.length cap ∧ w.cell? ⟨b, off, none⟩ = some (.int .u32 ((x : Nat) : Int)) ∧ b < w.heap.size := by
  obtain ⟨_, a, cap, rfl, h2, h3, _, h6⟩ := h
  obtain ⟨b, off, rfl, hb, hc⟩ := h6 (by rw [hm]; simp)
  have := hc 0 (by rw [hm]; simp)
  rw [hm, lim_cons_zero] at this
  exact ⟨b, off, cap, rfl, this, hb⟩

set_option maxRecDepth 100000 in
set_option maxHeartbeats 32000000 in
theorem known_walk (w : World) : Calls Try.prog 12 #[] w fun e w' => e = .returned (.bool true) ∧ Below w.heap.size w w' := by
  obtain ⟨fZ, hfZ⟩ : ∃ x : F, fr false 0 1 = x := ⟨_, rfl⟩
  obtain ⟨fL, hfL⟩ : ∃ x : F, fr true 9223372036854775808 1 = x := ⟨_, rfl⟩
  obtain ⟨fO, hfO⟩ : ∃ x : F, fr false 1 1 = x := ⟨_, rfl⟩
  obtain ⟨fV, hfV⟩ : ∃ x : F, fr true 9223372036854775809 1 = x := ⟨_, rfl⟩
  obtain ⟨fG, hfG⟩ : ∃ x : F, fr false bigN 1 = x := ⟨_, rfl⟩
  obtain ⟨fM, hfM⟩ : ∃ x : F, fr false (bigN - 1) 1 = x := ⟨_, rfl⟩
  have K1 : Hid (ofF 0 (-5) = (fZ, 0)) := by show _ = _; rw [← hfZ]; exact k_of0
  have K2 : Hid (ofF 1 0 = (F0, 2)) := by show _ = _; exact k_of10
  have K3 : Hid (ofF (-9223372036854775808) 1 = (fL, 0)) := by show _ = _; rw [← hfL]; exact k_least
  have K4 : Hid (intF fL = (-9223372036854775808, 0)) := by show _ = _; rw [← hfL]; exact k_int1
  have K5 : Hid (smallF 1 1 = fO) := by show _ = _; rw [← hfO]; exact k_s11
  have K6 : Hid (opF subN fL fO = (fV, 0)) := by show _ = _; rw [← hfL, ← hfO, ← hfV]; exact k_over
  have K7 : Hid (intF fV = (0, 2)) := by show _ = _; rw [← hfV]; exact k_int2
  have T1 : Hid (textX fZ = ⟨#[48, 47, 49]⟩) := by show _ = _; rw [← hfZ]; exact t_01
  have T2 : Hid (textX fV = ⟨#[45, 57, 50, 50, 51, 51, 55, 50, 48, 51, 54, 56, 53, 52, 55, 55, 53, 56, 48, 57, 47, 49]⟩) := by show _ = _; rw [← hfV]; exact t_over
  obtain ⟨yA, hyA⟩ := k_badd
  obtain ⟨yM, hyM⟩ := k_bmul
  have K8 : Hid (opF sumN fG fO = (yA, 3)) := by show _ = _; rw [← hfG, ← hfO]; exact hyA
  have K9 : Hid (opF subN fG fO = (fM, 0)) := by show _ = _; rw [← hfG, ← hfO, ← hfM]; exact k_bsub
  have K10 : Hid (opF mulN fG fG = (yM, 3)) := by show _ = _; rw [← hfG]; exact hyM
  have K11 : Hid (opF divN fG fG = (fO, 0)) := by show _ = _; rw [← hfG, ← hfO]; exact k_bdiv
  have T3 : Hid (textX fO = ⟨#[49, 47, 49]⟩) := by show _ = _; rw [← hfO]; exact t_11
  have VG : Hid (ValidF fG) := by show ValidF _; rw [← hfG]; exact validF_fr.2 big_ok
  have GN : Hid (fG = ⟨false, bigL, [1]⟩) := by show _ = _; rw [← hfG]; unfold fr; rw [big_limbs, limbs_one]
  have MN : Hid (fM = ⟨false, 4294967294 :: List.replicate 31 4294967295, [1]⟩) := by show _ = _; rw [← hfM]; unfold fr; rw [big_sub_limbs, limbs_one]
  obtain ⟨sG, hsG⟩ : ∃ s, textX fG = s := ⟨_, rfl⟩
  have hsz : sG.size = 311 := by rw [← hsG, ← hfG]; exact t_big
  have T4 := Lib.hid hsG
  clear hsG hyA hyM hfZ hfL hfO hfV hfG hfM
  have HB : Hid (Below w.heap.size w w) := Below.refl _ _
  go_enter Try.func12, Try.ntmps12
  go_wp2_with fail
  refine (Of_c _ 0 (-5) (by omega) (by omega) (by omega) (by omega)).mono ?_
  rw [K1.out]
  rintro e w1 ⟨v, rfl, hv, hb1⟩
  have hv : IsF _ v (fZ) := hv
  obtain ⟨va, vb, rfl, h1, h2⟩ := hv
  obtain ⟨pZ, mZ, rfl, _, _⟩ := h1.shape
  obtain ⟨qZ, nZ, rfl, _, _⟩ := h2.shape
  have FZ := Lib.hid (IsF.at_ h1 h2)
  clear h1 h2
  replace HB := Lib.hid (HB.out.trans (hb1.mono HB.out.size))
  clear hb1
  have g_Z : w.heap.size ≤ w1.heap.size := by have := HB.out.size; omega
  go_wp2_with fail
  refine (Of_c _ 1 0 (by omega) (by omega) (by omega) (by omega)).mono ?_
  rw [K2.out]
  rintro e w2 ⟨v, rfl, hv, hb2⟩
  have hv : IsF _ v (F0) := hv
  obtain ⟨va, vb, rfl, h1, h2⟩ := hv
  obtain ⟨pU, mU, rfl, _, _⟩ := h1.shape
  obtain ⟨qU, nU, rfl, _, _⟩ := h2.shape
  have FU := Lib.hid (IsF.at_ h1 h2)
  clear h1 h2
  obtain ⟨hb2, CZ⟩ := after_new hb2
  replace CZ := Lib.hid CZ
  replace FZ := Lib.hid (FZ.out.after hb2)
  replace HB := Lib.hid (HB.out.trans (hb2.mono HB.out.size))
  clear hb2
  have d_Z_U : w1.heap.size < w2.heap.size := CZ.out.lt
  have g_U : w.heap.size ≤ w2.heap.size := by have := HB.out.size; omega
  obtain ⟨cZ0, cZ1, cZ2⟩ := CZ.out.cells3
  have ltZ := CZ.out.lt
  go_wp2_with fail
  refine (Of_c _ (-9223372036854775808) 1 (by omega) (by omega) (by omega) (by omega)).mono ?_
  rw [K3.out]
  rintro e w3 ⟨v, rfl, hv, hb3⟩
  have hv : IsF _ v (fL) := hv
  obtain ⟨va, vb, rfl, h1, h2⟩ := hv
  obtain ⟨pL, mL, rfl, _, _⟩ := h1.shape
  obtain ⟨qL, nL, rfl, _, _⟩ := h2.shape
  have FL := Lib.hid (IsF.at_ h1 h2)
  clear h1 h2
  clear cZ0 cZ1 cZ2 ltZ
  obtain ⟨hb3, CU⟩ := after_new hb3
  replace CU := Lib.hid CU
  replace CZ := Lib.hid (CZ.out.after hb3)
  replace FZ := Lib.hid (FZ.out.after hb3)
  replace FU := Lib.hid (FU.out.after hb3)
  replace HB := Lib.hid (HB.out.trans (hb3.mono HB.out.size))
  clear hb3
  have d_Z_L : w1.heap.size < w3.heap.size := CZ.out.lt
  have d_U_L : w2.heap.size < w3.heap.size := CU.out.lt
  have g_L : w.heap.size ≤ w3.heap.size := by have := HB.out.size; omega
  clear FU CU
  obtain ⟨cZ0, cZ1, cZ2⟩ := CZ.out.cells3
  have ltZ := CZ.out.lt
  go_wp2_with fail
  refine (Int_c _ _ fL (FL.out.alloc _)).mono ?_
  rw [K4.out]
  rintro e w4 ⟨rfl, hb4⟩
  clear cZ0 cZ1 cZ2 ltZ
  obtain ⟨hb4, CL⟩ := after_new hb4
  replace CL := Lib.hid CL
  replace CZ := Lib.hid (CZ.out.after hb4)
  replace FZ := Lib.hid (FZ.out.after hb4)
  replace FL := Lib.hid (FL.out.after hb4)
  replace HB := Lib.hid (HB.out.trans (hb4.mono HB.out.size))
  clear hb4
  obtain ⟨cZ0, cZ1, cZ2⟩ := CZ.out.cells3
  have ltZ := CZ.out.lt
  obtain ⟨cL0, cL1, cL2⟩ := CL.out.cells3
  have ltL := CL.out.lt
  go_upto_region 5 with fail
  clear cZ0 cZ1 cZ2 ltZ cL0 cL1 cL2 ltL
  refine wp_region_gj (J := GJ _ (fun _ => SK (fun κ => match κ with | 0 => .eq (.agg #[.bool (fL).neg, .slice pL (fL).num.length mL, .slice qL (fL).den.length nL]) | 1 => .isF (fO) | 2 => .tup (fV) (0) | 3 => .tup (fV) (0) | 4 => .isF (fV) | 5 => .eq (.int .i64 (0)) | 6 => .any | 8 => .eq (.int .i64 0) | _ => .any)) (CV w4 [⟨6, 7, fV, 9⟩]) _) (by kernel_rfl) ?_ ?_ (GJ.start CV.start)
  · intro listed a w9 i hr hj
    obtain ⟨hi12, hun, _, _, _⟩ := ready_mem hr
    have h12 : i ∈ List.range 9 := List.mem_range.2 hi12
    simp only [List.range, List.range.loop, List.mem_cons, List.not_mem_nil, or_false] at h12
    obtain ⟨f, rfl, hcm, hf⟩ := hj.opened [47, 48, 49, 46, 50, 51, 9, 10] (by kernel_rfl)
    replace hcm : CV w4 [⟨6, 7, fV, 9⟩] listed f w9 := hcm
    rcases h12 with rfl | rfl | rfl | rfl | rfl | rfl | rfl | rfl | rfl
    · obtain ⟨k0, k1, k2⟩ := (CL.out.after hcm.1).cells3
      have klt := (CL.out.after hcm.1).lt
      refine GJ.op hj (by kernel_rfl) hr rfl [47, 48, 49, 46, 50, 51, 9, 10] (by kernel_rfl) (fun K hK => ?_)
      simp only [Act.put, List.foldl_cons, List.foldl_nil, List.setIfInBounds_toArray, List.set_cons_zero, List.set_cons_succ] at hK ⊢
      clear hj hf
      go_simp
      exact hK _ _ (fun k v _ _ h => h.keep (Below.refl _ _)) (fun t ht => SK.of (.eq (.agg #[.bool (fL).neg, .slice pL (fL).num.length mL, .slice qL (fL).den.length nL])) rfl rfl) (hcm.keep (Below.refl _ _) (fun e he => by simp only [List.mem_cons, List.not_mem_nil, or_false] at he; rcases he with rfl <;> (first | rfl | simp)) (fun e he => by simp only [List.mem_cons, List.not_mem_nil, or_false] at he; rcases he with rfl <;> (first | rfl | simp)))
    · refine GJ.op hj (by kernel_rfl) hr rfl [47, 48, 49, 46, 50, 51, 9, 10] (by kernel_rfl) (fun K hK => ?_)
      simp only [Act.put, List.foldl_cons, List.foldl_nil, List.setIfInBounds_toArray, List.set_cons_zero, List.set_cons_succ] at hK ⊢
      clear hj hf
      go_simp
      refine (small_c w9 1 1 (by omega) (by omega) (by omega) (by omega)).mono ?_
      rw [K5.out]
      rintro e w10 ⟨v10, rfl, hv10, hb10⟩
      exact hK _ _ (fun k v _ _ h => h.keep hb10) (fun t ht => SK.of (.isF (fO)) rfl hv10) (hcm.keep hb10 (fun e he => by simp only [List.mem_cons, List.not_mem_nil, or_false] at he; rcases he with rfl <;> (first | rfl | simp)) (fun e he => by simp only [List.mem_cons, List.not_mem_nil, or_false] at he; rcases he with rfl <;> (first | rfl | simp)))
    · have e1 : f 47 = .agg #[.bool (fL).neg, .slice pL (fL).num.length mL, .slice qL (fL).den.length nL] := hf 0 _ _ rfl rfl (up_dep hr (by kernel_rfl))
      have s2 : IsF w9 (f 48) (fO) := hf 1 _ _ rfl rfl (up_dep hr (by kernel_rfl))
      refine GJ.op hj (by kernel_rfl) hr rfl [47, 48, 49, 46, 50, 51, 9, 10] (by kernel_rfl) (fun K hK => ?_)
      simp only [Act.put, List.foldl_cons, List.foldl_nil, List.setIfInBounds_toArray, List.set_cons_zero, List.set_cons_succ] at hK ⊢
      clear hj hf
      rw [e1] at hK ⊢
      clear e1
      go_simp
      refine (Sub_c w9 _ _ fL fO (FL.out.after hcm.1) s2).mono ?_
      rw [K6.out]
      rintro e w10 ⟨v10, rfl, hv10, hb10⟩
      exact hK _ _ (fun k v _ _ h => h.keep hb10) (fun t ht => SK.of (.tup (fV) (0)) rfl ⟨_, rfl, hv10⟩) (hcm.keep hb10 (fun e he => by simp only [List.mem_cons, List.not_mem_nil, or_false] at he; rcases he with rfl <;> (first | rfl | simp)) (fun e he => by simp only [List.mem_cons, List.not_mem_nil, or_false] at he; rcases he with rfl <;> (first | rfl | simp)))
    · obtain ⟨u1, e1, s1⟩ : ∃ u, f 49 = .tuple #[u, .int .i64 (0)] ∧ IsF w9 u (fV) := hf 2 _ _ rfl rfl (up_dep hr (by kernel_rfl))
      refine GJ.op hj (by kernel_rfl) hr rfl [47, 48, 49, 46, 50, 51, 9, 10] (by kernel_rfl) (fun K hK => ?_)
      simp only [Act.put, List.foldl_cons, List.foldl_nil, List.setIfInBounds_toArray, List.set_cons_zero, List.set_cons_succ] at hK ⊢
      clear hj hf
      rw [e1] at hK ⊢
      clear e1
      go_simp
      exact hK _ _ (fun k v _ _ h => h.keep (Below.refl _ _)) (fun t ht => SK.of (.tup (fV) (0)) rfl ⟨_, rfl, s1⟩) (hcm.keep (Below.refl _ _) (fun e he => by simp only [List.mem_cons, List.not_mem_nil, or_false] at he; rcases he with rfl <;> (first | rfl | simp)) (fun e he => by simp only [List.mem_cons, List.not_mem_nil, or_false] at he; rcases he with rfl <;> (first | rfl | simp)))
    · obtain ⟨u1, e1, s1⟩ : ∃ u, f 46 = .tuple #[u, .int .i64 (0)] ∧ IsF w9 u (fV) := hf 3 _ _ rfl rfl (up_dep hr (by kernel_rfl))
      refine GJ.op hj (by kernel_rfl) hr rfl [47, 48, 49, 46, 50, 51, 9, 10] (by kernel_rfl) (fun K hK => ?_)
      simp only [Act.put, List.foldl_cons, List.foldl_nil, List.setIfInBounds_toArray, List.set_cons_zero, List.set_cons_succ] at hK ⊢
      clear hj hf
      rw [e1] at hK ⊢
      clear e1
      go_simp
      exact hK _ _ (fun k v _ _ h => h.keep (Below.refl _ _)) (fun t ht => SK.of (.isF (fV)) rfl s1) (hcm.keep (Below.refl _ _) (fun e he => by simp only [List.mem_cons, List.not_mem_nil, or_false] at he; rcases he with rfl <;> (first | rfl | simp)) (fun e he => by simp only [List.mem_cons, List.not_mem_nil, or_false] at he; rcases he with rfl <;> (first | rfl | simp)))
    · obtain ⟨u1, e1, s1⟩ : ∃ u, f 46 = .tuple #[u, .int .i64 (0)] ∧ IsF w9 u (fV) := hf 3 _ _ rfl rfl (up_dep hr (by kernel_rfl))
      refine GJ.op hj (by kernel_rfl) hr rfl [47, 48, 49, 46, 50, 51, 9, 10] (by kernel_rfl) (fun K hK => ?_)
      simp only [Act.put, List.foldl_cons, List.foldl_nil, List.setIfInBounds_toArray, List.set_cons_zero, List.set_cons_succ] at hK ⊢
      clear hj hf
      rw [e1] at hK ⊢
      clear e1
      go_simp
      exact hK _ _ (fun k v _ _ h => h.keep (Below.refl _ _)) (fun t ht => SK.of (.eq (.int .i64 (0))) rfl rfl) (hcm.keep (Below.refl _ _) (fun e he => by simp only [List.mem_cons, List.not_mem_nil, or_false] at he; rcases he with rfl <;> (first | rfl | simp)) (fun e he => by simp only [List.mem_cons, List.not_mem_nil, or_false] at he; rcases he with rfl <;> (first | rfl | simp)))
    · have nst : ¬ up listed 7 := fun h => not_up hun (hj.closed 7 6 h (by kernel_rfl))
      refine GJ.op hj (by kernel_rfl) hr rfl [47, 48, 49, 46, 50, 51, 9, 10] (by kernel_rfl) (fun K hK => ?_)
      simp only [Act.put, List.foldl_cons, List.foldl_nil, List.setIfInBounds_toArray, List.set_cons_zero, List.set_cons_succ] at hK ⊢
      clear hj hf
      go_simp
      exact hK _ _ (fun k v _ _ h => h.keep (held_alloc (Below.refl _ _))) (fun t ht => SK.of .any rfl trivial) (hcm.new ⟨6, 7, fV, 9⟩ (by simp) rfl (fun e he => by simp only [List.mem_cons, List.not_mem_nil, or_false] at he; rcases he with rfl <;> (first | (intro _; rfl) | simp)) (fun e he => by simp only [List.mem_cons, List.not_mem_nil, or_false] at he; rcases he with rfl <;> (first | (intro _; rfl) | simp)) (fun e he => by simp only [List.mem_cons, List.not_mem_nil, or_false] at he; rcases he with rfl <;> (first | rfl | simp)) nst rfl (fun e he => by simp only [List.mem_cons, List.not_mem_nil, or_false] at he; rcases he with rfl <;> (first | (intro _; rfl) | simp)))
    · have hcl := hj.closed
      have hsz := hj.lsize
      have hlt : 7 < listed.size := by rw [hsz]; decide
      have hua : ∀ e ∈ ([⟨6, 7, fV, 9⟩] : List VE), up listed e.al := fun e he => by simp only [List.mem_cons, List.not_mem_nil, or_false] at he; rcases he with rfl <;> exact up_dep hr (by kernel_rfl)
      have s1 : IsF w9 (f 50) (fV) := (hf 4 _ _ rfl rfl (up_dep hr (by kernel_rfl)))
      obtain ⟨blk, e1, hbw, hbl, hyes, hnot⟩ := hcm.2.1 ⟨6, 7, fV, 9⟩ (by simp) (up_dep hr (by kernel_rfl))
      have hz : zeroB w9 blk := hnot (not_up hun)
      obtain ⟨va, vb, e2, h1, h2⟩ := s1
      obtain ⟨pa, ca, rfl, _, _⟩ := h1.shape
      obtain ⟨pb, cb, rfl, _, _⟩ := h2.shape
      refine GJ.op hj (by kernel_rfl) hr rfl [47, 48, 49, 46, 50, 51, 9, 10] (by kernel_rfl) (fun K hK => ?_)
      simp only [Act.put, List.foldl_cons, List.foldl_nil, List.setIfInBounds_toArray, List.set_cons_zero, List.set_cons_succ] at hK ⊢
      clear hj hf
      obtain ⟨z0, z1, z2⟩ := Box.cells3 hz
      have q0 := Box.frozen hz 0
      have q1 := Box.frozen hz 1
      have q2 := Box.frozen hz 2
      obtain ⟨za, hza⟩ : ∃ z, f 9 = z := ⟨_, rfl⟩
      obtain ⟨zb, hzb⟩ : ∃ z, f 50 = z := ⟨_, rfl⟩
      rw [hza, hzb] at hK ⊢
      simp only at e1
      rw [hza] at e1
      rw [hzb] at e2
      subst e1 e2
      clear hzb
      go_simp
      exact hK undef _ (fun k v _ _ h => h.fx (fx_set3 blk _ _ _) (Box.noT hz)) (fun t ht => by cases ht) (hcm.put ⟨6, 7, fV, 9⟩ (by simp) rfl (fun e he => by simp only [List.mem_cons, List.not_mem_nil, or_false] at he; rcases he with rfl <;> (first | (intro _; rfl) | simp)) (fun e he => by simp only [List.mem_cons, List.not_mem_nil, or_false] at he; rcases he with rfl <;> (first | (intro _; rfl) | simp)) hlt hua hza hz ⟨_, _, rfl, h1, h2⟩ (fun e he => by simp only [List.mem_cons, List.not_mem_nil, or_false] at he; rcases he with rfl <;> (first | rfl | exact hza.symm)))
    · have e1 : f 51 = .int .i64 (0) := hf 5 _ _ rfl rfl (up_dep hr (by kernel_rfl))
      refine GJ.op hj (by kernel_rfl) hr rfl [47, 48, 49, 46, 50, 51, 9, 10] (by kernel_rfl) (fun K hK => ?_)
      simp only [Act.put, List.foldl_cons, List.foldl_nil, List.setIfInBounds_toArray, List.set_cons_zero, List.set_cons_succ] at hK ⊢
      clear hj hf
      rw [e1] at hK ⊢
      clear e1
      go_simp
      exact hK _ _ (fun k v _ _ h => h.keep (Below.refl _ _)) (fun t ht => SK.of (.eq (.int .i64 0)) rfl rfl) (hcm.keep (Below.refl _ _) (fun e he => by simp only [List.mem_cons, List.not_mem_nil, or_false] at he; rcases he with rfl <;> (first | rfl | simp)) (fun e he => by simp only [List.mem_cons, List.not_mem_nil, or_false] at he; rcases he with rfl <;> (first | rfl | simp)))
  · intro listed a w11 hr hj
    have hu : ∀ k, k < 9 → up listed k := fun k hk => all_up (by kernel_rfl) hj.lsize hr k hk
    obtain ⟨f, rfl, hcm, hf⟩ := hj.opened [47, 48, 49, 46, 50, 51, 9, 10] (by kernel_rfl)
    replace hcm : CV w4 [⟨6, 7, fV, 9⟩] listed f w11 := hcm
    have eE : f 10 = .int .i64 0 := hf 8 _ _ rfl rfl (hu 8 (by omega))
    obtain ⟨BV, eP, ggV, vv⟩ := hcm.done ⟨6, 7, fV, 9⟩ (by simp) (hu 6 (by omega)) (hu 7 (by omega))
    have hbn : Below w4.heap.size w4 w11 := hcm.1
    have HVV := Lib.hid vv
    simp only at eP HVV
    clear vv
    clear hcm hf hj hr hu
    simp only [List.foldl_cons, List.foldl_nil, List.setIfInBounds_toArray, List.set_cons_zero, List.set_cons_succ]
    rw [eE, eP]
    clear eE eP
    generalize f 47 = g47
    generalize f 48 = g48
    generalize f 49 = g49
    generalize f 46 = g46
    generalize f 50 = g50
    generalize f 51 = g51
    clear f
    have d_w11 : w4.heap.size ≤ w11.heap.size := hbn.size
    replace CZ := Lib.hid (CZ.out.after hbn)
    replace CL := Lib.hid (CL.out.after hbn)
    replace FZ := Lib.hid (FZ.out.after hbn)
    replace FL := Lib.hid (FL.out.after hbn)
    replace HB := Lib.hid (HB.out.trans (hbn.mono HB.out.size))
    clear hbn
    obtain ⟨va, vb, hbx, h1, h2⟩ := HVV.out
    obtain ⟨pV, mV, rfl, _, _⟩ := h1.shape
    obtain ⟨qV, nV, rfl, _, _⟩ := h2.shape
    have CV := Lib.hid hbx
    have FV := Lib.hid (IsF.at_ h1 h2)
    clear hbx h1 h2
    clear HVV
    clear FL CL
    obtain ⟨cZ0, cZ1, cZ2⟩ := CZ.out.cells3
    have ltZ := CZ.out.lt
    obtain ⟨cV0, cV1, cV2⟩ := CV.out.cells3
    have ltV := CV.out.lt
    go_wp2_with fail
    refine (Int_c _ _ fV FV.out).mono ?_
    rw [K7.out]
    rintro e w12 ⟨rfl, hb12⟩
    clear cZ0 cZ1 cZ2 ltZ cV0 cV1 cV2 ltV
    replace CZ := Lib.hid (CZ.out.after hb12)
    replace CV := Lib.hid (CV.out.after hb12)
    replace FZ := Lib.hid (FZ.out.after hb12)
    replace FV := Lib.hid (FV.out.after hb12)
    replace HB := Lib.hid (HB.out.trans (hb12.mono HB.out.size))
    clear hb12
    obtain ⟨cZ0, cZ1, cZ2⟩ := CZ.out.cells3
    have ltZ := CZ.out.lt
    obtain ⟨cV0, cV1, cV2⟩ := CV.out.cells3
    have ltV := CV.out.lt
    go_wp2_with fail
    refine (Text_c _ _ fZ FZ.out).mono ?_
    rw [T1.out]
    rintro e w13 ⟨rfl, hb13⟩
    clear cZ0 cZ1 cZ2 ltZ cV0 cV1 cV2 ltV
    replace CZ := Lib.hid (CZ.out.after hb13)
    replace CV := Lib.hid (CV.out.after hb13)
    replace FZ := Lib.hid (FZ.out.after hb13)
    replace FV := Lib.hid (FV.out.after hb13)
    replace HB := Lib.hid (HB.out.trans (hb13.mono HB.out.size))
    clear hb13
    obtain ⟨cZ0, cZ1, cZ2⟩ := CZ.out.cells3
    have ltZ := CZ.out.lt
    obtain ⟨cV0, cV1, cV2⟩ := CV.out.cells3
    have ltV := CV.out.lt
    go_wp2_with fail
    refine (Text_c _ _ fV FV.out).mono ?_
    rw [T2.out]
    rintro e w14 ⟨rfl, hb14⟩
    clear cZ0 cZ1 cZ2 ltZ cV0 cV1 cV2 ltV
    replace CZ := Lib.hid (CZ.out.after hb14)
    replace CV := Lib.hid (CV.out.after hb14)
    replace FZ := Lib.hid (FZ.out.after hb14)
    replace FV := Lib.hid (FV.out.after hb14)
    replace HB := Lib.hid (HB.out.trans (hb14.mono HB.out.size))
    clear hb14
    clear FZ CZ FV CV
    have hmk : ∀ W : World, (Instr.makeSlice 23 (.int .i64 32) (.int .i64 32)).run Try.prog W = .ok (.slice (some ⟨W.heap.size, 0, none⟩) 32 32) (W.alloc (.cells (mk32 32) 51)) := run_make32 32 (by omega)
    go_upto_region 10 with fail
    obtain ⟨W1, hW1⟩ : ∃ W1, W1 = ((w14.alloc (.cells (mk32 32) 51)).alloc (.cells #[.int .u32 1] 51)).alloc (.cells #[.bool false, .slice (some ⟨w14.heap.size, 0, none⟩) 32 32, .slice (some ⟨w14.heap.size + 1, 0, none⟩) 1 1] 25) := ⟨_, rfl⟩
    have r0 : Row32 W1 w14.heap.size (List.replicate 32 0) := hW1 ▸ ((Row32.made w14 32).alloc _).alloc _
    have r1 : Row32 W1 (w14.heap.size + 1) [1] := by rw [hW1, ← World.size_alloc w14 (.cells (mk32 32) 51)]; exact (Row32.lit1 _ 1 1 rfl).alloc _
    have bg : Box W1 (w14.heap.size + 1 + 1) #[.bool false, .slice (some ⟨w14.heap.size, 0, none⟩) 32 32, .slice (some ⟨w14.heap.size + 1, 0, none⟩) 1 1] 25 := by
      rw [hW1, ← World.size_alloc w14 (.cells (mk32 32) 51), ← World.size_alloc (w14.alloc _) (.cells #[.int .u32 1] 51)]; exact Box.new _ _ _
    have hb1 : Below w14.heap.size w14 W1 := hW1 ▸ held_alloc (held_alloc (held_alloc (Below.refl _ w14)))
    rw [← hW1]
    clear hW1 hmk
    obtain ⟨S0, hS0⟩ : ∃ S0, w14.heap.size = S0 := ⟨_, rfl⟩
    have hS1 : w.heap.size ≤ S0 := by rw [← hS0]; exact HB.out.size
    replace HB := Lib.hid (HB.out.trans (hb1.mono HB.out.size))
    rw [hS0] at r0 r1 bg ⊢
    clear hS0 hb1
    go_wp2_with fail
    go_loopg [14] 32 (fun g t wx => ∃ i : Nat, i ≤ 32 ∧ g = 32 - i ∧ t = .int .i64 (i : Int) ∧ Hid (Row32 wx S0 (List.replicate i 4294967295 ++ List.replicate (32 - i) 0)) ∧ Hid (Row32 wx (S0 + 1) [1]) ∧ Hid (Box wx (S0 + 1 + 1) #[.bool false, .slice (some ⟨S0, 0, none⟩) 32 32, .slice (some ⟨S0 + 1, 0, none⟩) 1 1] 25) ∧ Hid (Below w.heap.size w wx))
    case atStart => exact ⟨0, by omega, rfl, rfl, r0, r1, bg, HB.out⟩
    case round =>
      clear HB r0 r1 bg
      obtain ⟨i, hi, rfl, rfl, r0, r1, bg, HB⟩ := hrel
      by_cases hlt : i < 32
      · have hdi : decide ((i : Int) < 32) = true := decide_eq_true (by omega)
        have hli : (i : Int) < 32 := by omega
        have hlen : i < (List.replicate i 4294967295 ++ List.replicate (32 - i) 0).length := by simp; omega
        have kc := r0.out.cell hlen
        have kf := r0.out.frozen i
        have kl := r0.out.lt
        obtain ⟨c0, c1, c2⟩ := bg.out.cells3
        have lb := bg.out.lt
        go_wp2_with fail
        go_roundg (32 - (i + 1))
        case measure => omega
        case rel =>
          refine ⟨i + 1, by omega, rfl, by go_num, ?_, r1.out.far (by simp) _, bg.out.far (by simp; omega) _, HB.out.setCell hS1 _⟩
          have h := r0.out.set' i 4294967295 (z := 4294967295) rfl
          rw [rep_step hlt] at h
          exact h
      · obtain rfl : i = 32 := by omega
        have hdi : decide (((32 : Nat) : Int) < 32) = false := rfl
        have hdi2 : decide ((32 : Int) < 32) = false := rfl
        have FG : Hid (IsF wr (.agg #[.bool false, .slice (some ⟨S0, 0, none⟩) 32 32, .slice (some ⟨S0 + 1, 0, none⟩) 1 1]) fG) := by
          show IsF _ _ _
          rw [GN.out]
          exact ⟨_, _, rfl, Sl.of_row (l := bigL) r0.out bigL_lb (Nat.le_refl _) (by decide), Sl.of_row (l := [1]) r1.out (fun x hx => by simp at hx; omega) (Nat.le_refl _) (by decide)⟩
        have CG := bg
        clear r0 r1 bg hlt
        go_upto_region 14 with fail
        obtain ⟨cG0, cG1, cG2⟩ := CG.out.cells3
        have ltG := CG.out.lt
        go_upto_region 14 with fail
        clear cG0 cG1 cG2 ltG
        refine wp_region_gj (J := GJ _ (fun _ => SK (fun κ => match κ with | 0 => .eq (.agg #[.bool false, .slice (some ⟨S0, 0, none⟩) 32 32, .slice (some ⟨S0 + 1, 0, none⟩) 1 1]) | 1 => .isF (fO) | 2 => .tup (yA) (3) | 3 => .tup (yA) (3) | 4 => .isF (yA) | 5 => .eq (.int .i64 (3)) | 6 => .eq (.int .i64 3) | _ => .any)) (fun _ _ w => Below wr.heap.size wr w) _) (by kernel_rfl) ?_ ?_ (GJ.start (below_dr (Below.refl _ _)))
        · intro listed a w9 i hr hj
          obtain ⟨hi12, hun, _, _, _⟩ := ready_mem hr
          have h12 : i ∈ List.range 7 := List.mem_range.2 hi12
          simp only [List.range, List.range.loop, List.mem_cons, List.not_mem_nil, or_false] at h12
          obtain ⟨f, rfl, hcm, hf⟩ := hj.opened [105, 106, 107, 104, 108, 109, 2] (by kernel_rfl)
          replace hcm : Below wr.heap.size wr w9 := hcm
          rcases h12 with rfl | rfl | rfl | rfl | rfl | rfl | rfl
          · obtain ⟨k0, k1, k2⟩ := (CG.out.after hcm).cells3
            have klt := (CG.out.after hcm).lt
            refine GJ.op hj (by kernel_rfl) hr rfl [105, 106, 107, 104, 108, 109, 2] (by kernel_rfl) (fun K hK => ?_)
            simp only [Act.put, List.foldl_cons, List.foldl_nil, List.setIfInBounds_toArray, List.set_cons_zero, List.set_cons_succ] at hK ⊢
            clear hj hf
            go_simp
            exact hK _ _ (fun k v _ _ h => h.keep (Below.refl _ _)) (fun t ht => SK.of (.eq (.agg #[.bool false, .slice (some ⟨S0, 0, none⟩) 32 32, .slice (some ⟨S0 + 1, 0, none⟩) 1 1])) rfl rfl) (hcm.trans ((Below.refl _ _).mono hcm.size))
          · refine GJ.op hj (by kernel_rfl) hr rfl [105, 106, 107, 104, 108, 109, 2] (by kernel_rfl) (fun K hK => ?_)
            simp only [Act.put, List.foldl_cons, List.foldl_nil, List.setIfInBounds_toArray, List.set_cons_zero, List.set_cons_succ] at hK ⊢
            clear hj hf
            go_simp
            refine (small_c w9 1 1 (by omega) (by omega) (by omega) (by omega)).mono ?_
            rw [K5.out]
            rintro e w10 ⟨v10, rfl, hv10, hb10⟩
            exact hK _ _ (fun k v _ _ h => h.keep hb10) (fun t ht => SK.of (.isF (fO)) rfl hv10) (hcm.trans (hb10.mono hcm.size))
          · have e1 : f 105 = .agg #[.bool false, .slice (some ⟨S0, 0, none⟩) 32 32, .slice (some ⟨S0 + 1, 0, none⟩) 1 1] := hf 0 _ _ rfl rfl (up_dep hr (by kernel_rfl))
            have s2 : IsF w9 (f 106) (fO) := hf 1 _ _ rfl rfl (up_dep hr (by kernel_rfl))
            refine GJ.op hj (by kernel_rfl) hr rfl [105, 106, 107, 104, 108, 109, 2] (by kernel_rfl) (fun K hK => ?_)
            simp only [Act.put, List.foldl_cons, List.foldl_nil, List.setIfInBounds_toArray, List.set_cons_zero, List.set_cons_succ] at hK ⊢
            clear hj hf
            rw [e1] at hK ⊢
            clear e1
            go_simp
            refine (Add_c w9 _ _ fG fO (FG.out.after hcm) s2).mono ?_
            rw [K8.out]
            rintro e w10 ⟨v10, rfl, hv10, hb10⟩
            exact hK _ _ (fun k v _ _ h => h.keep hb10) (fun t ht => SK.of (.tup (yA) (3)) rfl ⟨_, rfl, hv10⟩) (hcm.trans (hb10.mono hcm.size))
          · obtain ⟨u1, e1, s1⟩ : ∃ u, f 107 = .tuple #[u, .int .i64 (3)] ∧ IsF w9 u (yA) := hf 2 _ _ rfl rfl (up_dep hr (by kernel_rfl))
            refine GJ.op hj (by kernel_rfl) hr rfl [105, 106, 107, 104, 108, 109, 2] (by kernel_rfl) (fun K hK => ?_)
            simp only [Act.put, List.foldl_cons, List.foldl_nil, List.setIfInBounds_toArray, List.set_cons_zero, List.set_cons_succ] at hK ⊢
            clear hj hf
            rw [e1] at hK ⊢
            clear e1
            go_simp
            exact hK _ _ (fun k v _ _ h => h.keep (Below.refl _ _)) (fun t ht => SK.of (.tup (yA) (3)) rfl ⟨_, rfl, s1⟩) (hcm.trans ((Below.refl _ _).mono hcm.size))
          · obtain ⟨u1, e1, s1⟩ : ∃ u, f 104 = .tuple #[u, .int .i64 (3)] ∧ IsF w9 u (yA) := hf 3 _ _ rfl rfl (up_dep hr (by kernel_rfl))
            refine GJ.op hj (by kernel_rfl) hr rfl [105, 106, 107, 104, 108, 109, 2] (by kernel_rfl) (fun K hK => ?_)
            simp only [Act.put, List.foldl_cons, List.foldl_nil, List.setIfInBounds_toArray, List.set_cons_zero, List.set_cons_succ] at hK ⊢
            clear hj hf
            rw [e1] at hK ⊢
            clear e1
            go_simp
            exact hK _ _ (fun k v _ _ h => h.keep (Below.refl _ _)) (fun t ht => SK.of (.isF (yA)) rfl s1) (hcm.trans ((Below.refl _ _).mono hcm.size))
          · obtain ⟨u1, e1, s1⟩ : ∃ u, f 104 = .tuple #[u, .int .i64 (3)] ∧ IsF w9 u (yA) := hf 3 _ _ rfl rfl (up_dep hr (by kernel_rfl))
            refine GJ.op hj (by kernel_rfl) hr rfl [105, 106, 107, 104, 108, 109, 2] (by kernel_rfl) (fun K hK => ?_)
            simp only [Act.put, List.foldl_cons, List.foldl_nil, List.setIfInBounds_toArray, List.set_cons_zero, List.set_cons_succ] at hK ⊢
            clear hj hf
            rw [e1] at hK ⊢
            clear e1
            go_simp
            exact hK _ _ (fun k v _ _ h => h.keep (Below.refl _ _)) (fun t ht => SK.of (.eq (.int .i64 (3))) rfl rfl) (hcm.trans ((Below.refl _ _).mono hcm.size))
          · have e1 : f 109 = .int .i64 (3) := hf 5 _ _ rfl rfl (up_dep hr (by kernel_rfl))
            refine GJ.op hj (by kernel_rfl) hr rfl [105, 106, 107, 104, 108, 109, 2] (by kernel_rfl) (fun K hK => ?_)
            simp only [Act.put, List.foldl_cons, List.foldl_nil, List.setIfInBounds_toArray, List.set_cons_zero, List.set_cons_succ] at hK ⊢
            clear hj hf
            rw [e1] at hK ⊢
            clear e1
            go_simp
            exact hK _ _ (fun k v _ _ h => h.keep (Below.refl _ _)) (fun t ht => SK.of (.eq (.int .i64 3)) rfl rfl) (hcm.trans ((Below.refl _ _).mono hcm.size))
        · intro listed a w41 hr hj
          have hu : ∀ k, k < 7 → up listed k := fun k hk => all_up (by kernel_rfl) hj.lsize hr k hk
          obtain ⟨f, rfl, hcm, hf⟩ := hj.opened [105, 106, 107, 104, 108, 109, 2] (by kernel_rfl)
          replace hcm : Below wr.heap.size wr w41 := hcm
          have eE : f 2 = .int .i64 3 := hf 6 _ _ rfl rfl (hu 6 (by omega))
          have hbn : Below wr.heap.size wr w41 := hcm
          clear hcm hf hj hr hu
          simp only [List.foldl_cons, List.foldl_nil, List.setIfInBounds_toArray, List.set_cons_zero, List.set_cons_succ]
          rw [eE]
          clear eE
          generalize f 105 = g105
          generalize f 106 = g106
          generalize f 107 = g107
          generalize f 104 = g104
          generalize f 108 = g108
          generalize f 109 = g109
          clear f
          have d_w41 : wr.heap.size ≤ w41.heap.size := hbn.size
          replace CG := Lib.hid (CG.out.after hbn)
          replace FG := Lib.hid (FG.out.after hbn)
          replace HB := Lib.hid (HB.out.trans (hbn.mono HB.out.size))
          clear hbn
          obtain ⟨cG0, cG1, cG2⟩ := CG.out.cells3
          have ltG := CG.out.lt
          go_upto_region 15 with fail
          clear cG0 cG1 cG2 ltG
          refine wp_region_gj (J := GJ _ (fun _ => SK (fun κ => match κ with | 0 => .eq (.agg #[.bool false, .slice (some ⟨S0, 0, none⟩) 32 32, .slice (some ⟨S0 + 1, 0, none⟩) 1 1]) | 1 => .isF (fO) | 2 => .tup (fM) (0) | 3 => .tup (fM) (0) | 4 => .isF (fM) | 5 => .eq (.int .i64 (0)) | 6 => .any | 8 => .eq (.int .i64 0) | _ => .any)) (CV w41 [⟨6, 7, fM, 15⟩]) _) (by kernel_rfl) ?_ ?_ (GJ.start CV.start)
          · intro listed a w9 i hr hj
            obtain ⟨hi12, hun, _, _, _⟩ := ready_mem hr
            have h12 : i ∈ List.range 9 := List.mem_range.2 hi12
            simp only [List.range, List.range.loop, List.mem_cons, List.not_mem_nil, or_false] at h12
            obtain ⟨f, rfl, hcm, hf⟩ := hj.opened [111, 112, 113, 110, 114, 115, 15, 4] (by kernel_rfl)
            replace hcm : CV w41 [⟨6, 7, fM, 15⟩] listed f w9 := hcm
            rcases h12 with rfl | rfl | rfl | rfl | rfl | rfl | rfl | rfl | rfl
            · obtain ⟨k0, k1, k2⟩ := (CG.out.after hcm.1).cells3
              have klt := (CG.out.after hcm.1).lt
              refine GJ.op hj (by kernel_rfl) hr rfl [111, 112, 113, 110, 114, 115, 15, 4] (by kernel_rfl) (fun K hK => ?_)
              simp only [Act.put, List.foldl_cons, List.foldl_nil, List.setIfInBounds_toArray, List.set_cons_zero, List.set_cons_succ] at hK ⊢
              clear hj hf
              go_simp
              exact hK _ _ (fun k v _ _ h => h.keep (Below.refl _ _)) (fun t ht => SK.of (.eq (.agg #[.bool false, .slice (some ⟨S0, 0, none⟩) 32 32, .slice (some ⟨S0 + 1, 0, none⟩) 1 1])) rfl rfl) (hcm.keep (Below.refl _ _) (fun e he => by simp only [List.mem_cons, List.not_mem_nil, or_false] at he; rcases he with rfl <;> (first | rfl | simp)) (fun e he => by simp only [List.mem_cons, List.not_mem_nil, or_false] at he; rcases he with rfl <;> (first | rfl | simp)))
            · refine GJ.op hj (by kernel_rfl) hr rfl [111, 112, 113, 110, 114, 115, 15, 4] (by kernel_rfl) (fun K hK => ?_)
              simp only [Act.put, List.foldl_cons, List.foldl_nil, List.setIfInBounds_toArray, List.set_cons_zero, List.set_cons_succ] at hK ⊢
              clear hj hf
              go_simp
              refine (small_c w9 1 1 (by omega) (by omega) (by omega) (by omega)).mono ?_
              rw [K5.out]
              rintro e w10 ⟨v10, rfl, hv10, hb10⟩
              exact hK _ _ (fun k v _ _ h => h.keep hb10) (fun t ht => SK.of (.isF (fO)) rfl hv10) (hcm.keep hb10 (fun e he => by simp only [List.mem_cons, List.not_mem_nil, or_false] at he; rcases he with rfl <;> (first | rfl | simp)) (fun e he => by simp only [List.mem_cons, List.not_mem_nil, or_false] at he; rcases he with rfl <;> (first | rfl | simp)))
            · have e1 : f 111 = .agg #[.bool false, .slice (some ⟨S0, 0, none⟩) 32 32, .slice (some ⟨S0 + 1, 0, none⟩) 1 1] := hf 0 _ _ rfl rfl (up_dep hr (by kernel_rfl))
              have s2 : IsF w9 (f 112) (fO) := hf 1 _ _ rfl rfl (up_dep hr (by kernel_rfl))
              refine GJ.op hj (by kernel_rfl) hr rfl [111, 112, 113, 110, 114, 115, 15, 4] (by kernel_rfl) (fun K hK => ?_)
              simp only [Act.put, List.foldl_cons, List.foldl_nil, List.setIfInBounds_toArray, List.set_cons_zero, List.set_cons_succ] at hK ⊢
              clear hj hf
              rw [e1] at hK ⊢
              clear e1
              go_simp
              refine (Sub_c w9 _ _ fG fO (FG.out.after hcm.1) s2).mono ?_
              rw [K9.out]
              rintro e w10 ⟨v10, rfl, hv10, hb10⟩
              exact hK _ _ (fun k v _ _ h => h.keep hb10) (fun t ht => SK.of (.tup (fM) (0)) rfl ⟨_, rfl, hv10⟩) (hcm.keep hb10 (fun e he => by simp only [List.mem_cons, List.not_mem_nil, or_false] at he; rcases he with rfl <;> (first | rfl | simp)) (fun e he => by simp only [List.mem_cons, List.not_mem_nil, or_false] at he; rcases he with rfl <;> (first | rfl | simp)))
            · obtain ⟨u1, e1, s1⟩ : ∃ u, f 113 = .tuple #[u, .int .i64 (0)] ∧ IsF w9 u (fM) := hf 2 _ _ rfl rfl (up_dep hr (by kernel_rfl))
              refine GJ.op hj (by kernel_rfl) hr rfl [111, 112, 113, 110, 114, 115, 15, 4] (by kernel_rfl) (fun K hK => ?_)
              simp only [Act.put, List.foldl_cons, List.foldl_nil, List.setIfInBounds_toArray, List.set_cons_zero, List.set_cons_succ] at hK ⊢
              clear hj hf
              rw [e1] at hK ⊢
              clear e1
              go_simp
              exact hK _ _ (fun k v _ _ h => h.keep (Below.refl _ _)) (fun t ht => SK.of (.tup (fM) (0)) rfl ⟨_, rfl, s1⟩) (hcm.keep (Below.refl _ _) (fun e he => by simp only [List.mem_cons, List.not_mem_nil, or_false] at he; rcases he with rfl <;> (first | rfl | simp)) (fun e he => by simp only [List.mem_cons, List.not_mem_nil, or_false] at he; rcases he with rfl <;> (first | rfl | simp)))
            · obtain ⟨u1, e1, s1⟩ : ∃ u, f 110 = .tuple #[u, .int .i64 (0)] ∧ IsF w9 u (fM) := hf 3 _ _ rfl rfl (up_dep hr (by kernel_rfl))
              refine GJ.op hj (by kernel_rfl) hr rfl [111, 112, 113, 110, 114, 115, 15, 4] (by kernel_rfl) (fun K hK => ?_)
              simp only [Act.put, List.foldl_cons, List.foldl_nil, List.setIfInBounds_toArray, List.set_cons_zero, List.set_cons_succ] at hK ⊢
              clear hj hf
              rw [e1] at hK ⊢
              clear e1
              go_simp
              exact hK _ _ (fun k v _ _ h => h.keep (Below.refl _ _)) (fun t ht => SK.of (.isF (fM)) rfl s1) (hcm.keep (Below.refl _ _) (fun e he => by simp only [List.mem_cons, List.not_mem_nil, or_false] at he; rcases he with rfl <;> (first | rfl | simp)) (fun e he => by simp only [List.mem_cons, List.not_mem_nil, or_false] at he; rcases he with rfl <;> (first | rfl | simp)))
            · obtain ⟨u1, e1, s1⟩ : ∃ u, f 110 = .tuple #[u, .int .i64 (0)] ∧ IsF w9 u (fM) := hf 3 _ _ rfl rfl (up_dep hr (by kernel_rfl))
              refine GJ.op hj (by kernel_rfl) hr rfl [111, 112, 113, 110, 114, 115, 15, 4] (by kernel_rfl) (fun K hK => ?_)
              simp only [Act.put, List.foldl_cons, List.foldl_nil, List.setIfInBounds_toArray, List.set_cons_zero, List.set_cons_succ] at hK ⊢
              clear hj hf
              rw [e1] at hK ⊢
              clear e1
              go_simp
              exact hK _ _ (fun k v _ _ h => h.keep (Below.refl _ _)) (fun t ht => SK.of (.eq (.int .i64 (0))) rfl rfl) (hcm.keep (Below.refl _ _) (fun e he => by simp only [List.mem_cons, List.not_mem_nil, or_false] at he; rcases he with rfl <;> (first | rfl | simp)) (fun e he => by simp only [List.mem_cons, List.not_mem_nil, or_false] at he; rcases he with rfl <;> (first | rfl | simp)))
            · have nst : ¬ up listed 7 := fun h => not_up hun (hj.closed 7 6 h (by kernel_rfl))
              refine GJ.op hj (by kernel_rfl) hr rfl [111, 112, 113, 110, 114, 115, 15, 4] (by kernel_rfl) (fun K hK => ?_)
              simp only [Act.put, List.foldl_cons, List.foldl_nil, List.setIfInBounds_toArray, List.set_cons_zero, List.set_cons_succ] at hK ⊢
              clear hj hf
              go_simp
              exact hK _ _ (fun k v _ _ h => h.keep (held_alloc (Below.refl _ _))) (fun t ht => SK.of .any rfl trivial) (hcm.new ⟨6, 7, fM, 15⟩ (by simp) rfl (fun e he => by simp only [List.mem_cons, List.not_mem_nil, or_false] at he; rcases he with rfl <;> (first | (intro _; rfl) | simp)) (fun e he => by simp only [List.mem_cons, List.not_mem_nil, or_false] at he; rcases he with rfl <;> (first | (intro _; rfl) | simp)) (fun e he => by simp only [List.mem_cons, List.not_mem_nil, or_false] at he; rcases he with rfl <;> (first | rfl | simp)) nst rfl (fun e he => by simp only [List.mem_cons, List.not_mem_nil, or_false] at he; rcases he with rfl <;> (first | (intro _; rfl) | simp)))
            · have hcl := hj.closed
              have hsz := hj.lsize
              have hlt : 7 < listed.size := by rw [hsz]; decide
              have hua : ∀ e ∈ ([⟨6, 7, fM, 15⟩] : List VE), up listed e.al := fun e he => by simp only [List.mem_cons, List.not_mem_nil, or_false] at he; rcases he with rfl <;> exact up_dep hr (by kernel_rfl)
              have s1 : IsF w9 (f 114) (fM) := (hf 4 _ _ rfl rfl (up_dep hr (by kernel_rfl)))
              obtain ⟨blk, e1, hbw, hbl, hyes, hnot⟩ := hcm.2.1 ⟨6, 7, fM, 15⟩ (by simp) (up_dep hr (by kernel_rfl))
              have hz : zeroB w9 blk := hnot (not_up hun)
              obtain ⟨va, vb, e2, h1, h2⟩ := s1
              obtain ⟨pa, ca, rfl, _, _⟩ := h1.shape
              obtain ⟨pb, cb, rfl, _, _⟩ := h2.shape
              refine GJ.op hj (by kernel_rfl) hr rfl [111, 112, 113, 110, 114, 115, 15, 4] (by kernel_rfl) (fun K hK => ?_)
              simp only [Act.put, List.foldl_cons, List.foldl_nil, List.setIfInBounds_toArray, List.set_cons_zero, List.set_cons_succ] at hK ⊢
              clear hj hf
              obtain ⟨z0, z1, z2⟩ := Box.cells3 hz
              have q0 := Box.frozen hz 0
              have q1 := Box.frozen hz 1
              have q2 := Box.frozen hz 2
              obtain ⟨za, hza⟩ : ∃ z, f 15 = z := ⟨_, rfl⟩
              obtain ⟨zb, hzb⟩ : ∃ z, f 114 = z := ⟨_, rfl⟩
              rw [hza, hzb] at hK ⊢
              simp only at e1
              rw [hza] at e1
              rw [hzb] at e2
              subst e1 e2
              clear hzb
              go_simp
              exact hK undef _ (fun k v _ _ h => h.fx (fx_set3 blk _ _ _) (Box.noT hz)) (fun t ht => by cases ht) (hcm.put ⟨6, 7, fM, 15⟩ (by simp) rfl (fun e he => by simp only [List.mem_cons, List.not_mem_nil, or_false] at he; rcases he with rfl <;> (first | (intro _; rfl) | simp)) (fun e he => by simp only [List.mem_cons, List.not_mem_nil, or_false] at he; rcases he with rfl <;> (first | (intro _; rfl) | simp)) hlt hua hza hz ⟨_, _, rfl, h1, h2⟩ (fun e he => by simp only [List.mem_cons, List.not_mem_nil, or_false] at he; rcases he with rfl <;> (first | rfl | exact hza.symm)))
            · have e1 : f 115 = .int .i64 (0) := hf 5 _ _ rfl rfl (up_dep hr (by kernel_rfl))
              refine GJ.op hj (by kernel_rfl) hr rfl [111, 112, 113, 110, 114, 115, 15, 4] (by kernel_rfl) (fun K hK => ?_)
              simp only [Act.put, List.foldl_cons, List.foldl_nil, List.setIfInBounds_toArray, List.set_cons_zero, List.set_cons_succ] at hK ⊢
              clear hj hf
              rw [e1] at hK ⊢
              clear e1
              go_simp
              exact hK _ _ (fun k v _ _ h => h.keep (Below.refl _ _)) (fun t ht => SK.of (.eq (.int .i64 0)) rfl rfl) (hcm.keep (Below.refl _ _) (fun e he => by simp only [List.mem_cons, List.not_mem_nil, or_false] at he; rcases he with rfl <;> (first | rfl | simp)) (fun e he => by simp only [List.mem_cons, List.not_mem_nil, or_false] at he; rcases he with rfl <;> (first | rfl | simp)))
          · intro listed a w43 hr hj
            have hu : ∀ k, k < 9 → up listed k := fun k hk => all_up (by kernel_rfl) hj.lsize hr k hk
            obtain ⟨f, rfl, hcm, hf⟩ := hj.opened [111, 112, 113, 110, 114, 115, 15, 4] (by kernel_rfl)
            replace hcm : CV w41 [⟨6, 7, fM, 15⟩] listed f w43 := hcm
            have eE : f 4 = .int .i64 0 := hf 8 _ _ rfl rfl (hu 8 (by omega))
            obtain ⟨BM, eP, ggM, vv⟩ := hcm.done ⟨6, 7, fM, 15⟩ (by simp) (hu 6 (by omega)) (hu 7 (by omega))
            have hbn : Below w41.heap.size w41 w43 := hcm.1
            have HVM := Lib.hid vv
            simp only at eP HVM
            clear vv
            clear hcm hf hj hr hu
            simp only [List.foldl_cons, List.foldl_nil, List.setIfInBounds_toArray, List.set_cons_zero, List.set_cons_succ]
            rw [eE, eP]
            clear eE eP
            generalize f 111 = g111
            generalize f 112 = g112
            generalize f 113 = g113
            generalize f 110 = g110
            generalize f 114 = g114
            generalize f 115 = g115
            clear f
            have d_w43 : w41.heap.size ≤ w43.heap.size := hbn.size
            replace CG := Lib.hid (CG.out.after hbn)
            replace FG := Lib.hid (FG.out.after hbn)
            replace HB := Lib.hid (HB.out.trans (hbn.mono HB.out.size))
            clear hbn
            obtain ⟨va, vb, hbx, h1, h2⟩ := HVM.out
            obtain ⟨pM, mM, rfl, _, _⟩ := h1.shape
            obtain ⟨qM, nM, rfl, _, _⟩ := h2.shape
            have CM := Lib.hid hbx
            have FM := Lib.hid (IsF.at_ h1 h2)
            clear hbx h1 h2
            clear HVM
            obtain ⟨cG0, cG1, cG2⟩ := CG.out.cells3
            have ltG := CG.out.lt
            obtain ⟨cM0, cM1, cM2⟩ := CM.out.cells3
            have ltM := CM.out.lt
            go_wp2_with fail
            refine (Mul_c _ _ _ fG fG FG.out FG.out).mono ?_
            rw [K10.out]
            rintro e w44 ⟨v, rfl, hv, hb44⟩
            have hv : IsF _ v (yM) := hv
            obtain ⟨va, vb, rfl, h1, h2⟩ := hv
            obtain ⟨pQ, mQ, rfl, _, _⟩ := h1.shape
            obtain ⟨qQ, nQ, rfl, _, _⟩ := h2.shape
            have FQ := Lib.hid (IsF.at_ h1 h2)
            clear h1 h2
            clear cG0 cG1 cG2 ltG cM0 cM1 cM2 ltM
            replace CG := Lib.hid (CG.out.after hb44)
            replace CM := Lib.hid (CM.out.after hb44)
            replace FG := Lib.hid (FG.out.after hb44)
            replace FM := Lib.hid (FM.out.after hb44)
            replace HB := Lib.hid (HB.out.trans (hb44.mono HB.out.size))
            clear hb44
            clear FQ
            obtain ⟨cG0, cG1, cG2⟩ := CG.out.cells3
            have ltG := CG.out.lt
            obtain ⟨cM0, cM1, cM2⟩ := CM.out.cells3
            have ltM := CM.out.lt
            go_wp2_with fail
            refine (Div_c _ _ _ fG fG FG.out FG.out).mono ?_
            rw [K11.out]
            rintro e w45 ⟨v, rfl, hv, hb45⟩
            have hv : IsF _ v (fO) := hv
            obtain ⟨va, vb, rfl, h1, h2⟩ := hv
            obtain ⟨pD, mD, rfl, _, _⟩ := h1.shape
            obtain ⟨qD, nD, rfl, _, _⟩ := h2.shape
            have FD := Lib.hid (IsF.at_ h1 h2)
            clear h1 h2
            clear cG0 cG1 cG2 ltG cM0 cM1 cM2 ltM
            replace CG := Lib.hid (CG.out.after hb45)
            replace CM := Lib.hid (CM.out.after hb45)
            replace FG := Lib.hid (FG.out.after hb45)
            replace FM := Lib.hid (FM.out.after hb45)
            replace HB := Lib.hid (HB.out.trans (hb45.mono HB.out.size))
            clear hb45
            have d_G_D : (S0 + 1 + 1) < w45.heap.size := CG.out.lt
            have d_M_D : BM < w45.heap.size := CM.out.lt
            have g_D : w.heap.size ≤ w45.heap.size := by have := HB.out.size; omega
            obtain ⟨cG0, cG1, cG2⟩ := CG.out.cells3
            have ltG := CG.out.lt
            obtain ⟨cM0, cM1, cM2⟩ := CM.out.cells3
            have ltM := CM.out.lt
            go_wp2_with fail
            refine (Valid_c _ _ fG (FG.out.alloc _)).mono ?_
            intro e w46 hr
            obtain ⟨rfl, hb46⟩ := hr.yes VG.out
            clear hr
            clear cG0 cG1 cG2 ltG cM0 cM1 cM2 ltM
            obtain ⟨hb46, CD⟩ := after_new hb46
            replace CD := Lib.hid CD
            replace CG := Lib.hid (CG.out.after hb46)
            replace CM := Lib.hid (CM.out.after hb46)
            replace FG := Lib.hid (FG.out.after hb46)
            replace FM := Lib.hid (FM.out.after hb46)
            replace FD := Lib.hid (FD.out.after hb46)
            replace HB := Lib.hid (HB.out.trans (hb46.mono HB.out.size))
            clear hb46
            obtain ⟨_, j1, j2⟩ := FM.out.parts
            have hml : fM.num.length = 32 := by rw [MN.out]; rfl
            obtain ⟨bm, om, cm, em, km, lm⟩ := sl_first (by rw [MN.out] : fM.num = 4294967294 :: List.replicate 31 4294967295) j1
            injection em with em _ em3
            subst em em3
            clear j1 j2
            have KM1 := Lib.hid km
            have km1 := km
            clear km
            obtain ⟨cG0, cG1, cG2⟩ := CG.out.cells3
            have ltG := CG.out.lt
            obtain ⟨cM0, cM1, cM2⟩ := CM.out.cells3
            have ltM := CM.out.lt
            obtain ⟨cD0, cD1, cD2⟩ := CD.out.cells3
            have ltD := CD.out.lt
            go_wp2_with fail
            refine (Text_c _ _ fO FD.out).mono ?_
            rw [T3.out]
            rintro e w47 ⟨rfl, hb47⟩
            clear cG0 cG1 cG2 ltG cM0 cM1 cM2 ltM cD0 cD1 cD2 ltD
            replace CG := Lib.hid (CG.out.after hb47)
            replace CM := Lib.hid (CM.out.after hb47)
            replace CD := Lib.hid (CD.out.after hb47)
            replace FG := Lib.hid (FG.out.after hb47)
            replace FM := Lib.hid (FM.out.after hb47)
            replace FD := Lib.hid (FD.out.after hb47)
            replace HB := Lib.hid (HB.out.trans (hb47.mono HB.out.size))
            clear hb47
            clear km1 lm KM1
            clear FM CM FD CD
            obtain ⟨cG0, cG1, cG2⟩ := CG.out.cells3
            have ltG := CG.out.lt
            go_wp2_with fail
            refine (Text_c _ _ fG FG.out).mono ?_
            rw [T4.out]
            rintro e w48 ⟨rfl, hb48⟩
            clear cG0 cG1 cG2 ltG
            replace CG := Lib.hid (CG.out.after hb48)
            replace FG := Lib.hid (FG.out.after hb48)
            replace HB := Lib.hid (HB.out.trans (hb48.mono HB.out.size))
            clear hb48
            clear FG CG
            have hmk : ∀ W : World, (Instr.makeSlice 23 (.int .i64 33) (.int .i64 33)).run Try.prog W = .ok (.slice (some ⟨W.heap.size, 0, none⟩) 33 33) (W.alloc (.cells (mk32 33) 51)) := run_make32 33 (by omega)
            go_upto_region 21 with fail
            obtain ⟨W5, hW5, q0, q1, q2, q3, q4, q5, q6, q7, q8, bx, hb5⟩ := odd_start w48
            rw [← hW5]
            clear hW5 hmk
            obtain ⟨S5, hS5⟩ : ∃ S5, w48.heap.size = S5 := ⟨_, rfl⟩
            have hS6 : w.heap.size ≤ S5 := by rw [← hS5]; exact HB.out.size
            replace HB := Lib.hid (HB.out.trans (hb5.mono HB.out.size))
            rw [hS5] at q0 q1 q2 q3 q4 q5 q6 q7 q8 bx ⊢
            clear hS5 hb5
            have x13 : W5.cell? ⟨(S5 + 1 + 1 + 1 + 1 + 1 + 1 + 1 + 1 + 1), 13, none⟩ = some (.slice (some ⟨(S5 + 1 + 1 + 1 + 1 + 1), 0, none⟩) 33 33) := bx.cell 13
            have lx := bx.lt
            have y32 := q5.cell (i := 32) (by simp)
            have yf := q5.frozen 32
            have ly := q5.lt
            go_upto_region 22 with fail
            clear x13 y32 yf
            obtain ⟨W6, hW6⟩ : ∃ W6, W6 = W5.setCell ⟨(S5 + 1 + 1 + 1 + 1 + 1), 32, none⟩ (.int .u32 1) := ⟨_, rfl⟩
            rw [← hW6]
            have p0 : Row32 W6 S5 [0] := hW6 ▸ q0.far (by first | (simp; done) | (simp; omega)) _
            have p1 : Row32 W6 (S5 + 1) [1] := hW6 ▸ q1.far (by first | (simp; done) | (simp; omega)) _
            have p2 : Row32 W6 (S5 + 1 + 1) [2] := hW6 ▸ q2.far (by first | (simp; done) | (simp; omega)) _
            have p3 : Row32 W6 (S5 + 1 + 1 + 1) [4] := hW6 ▸ q3.far (by first | (simp; done) | (simp; omega)) _
            have p4 : Row32 W6 (S5 + 1 + 1 + 1 + 1) [1] := hW6 ▸ q4.far (by first | (simp; done) | (simp; omega)) _
            have p6 : Row32 W6 (S5 + 1 + 1 + 1 + 1 + 1 + 1) [1] := hW6 ▸ q6.far (by first | (simp; done) | (simp; omega)) _
            have p7 : Row32 W6 (S5 + 1 + 1 + 1 + 1 + 1 + 1 + 1) [1] := hW6 ▸ q7.far (by first | (simp; done) | (simp; omega)) _
            have p8 : Row32 W6 (S5 + 1 + 1 + 1 + 1 + 1 + 1 + 1 + 1) [2] := hW6 ▸ q8.far (by first | (simp; done) | (simp; omega)) _
            have p5 : Row32 W6 (S5 + 1 + 1 + 1 + 1 + 1) (List.replicate 32 0 ++ [1]) := by
              have h := q5.set' 32 1 (z := 1) rfl
              rw [show (List.replicate 33 0).set 32 1 = List.replicate 32 0 ++ [1] from rfl] at h
              exact hW6 ▸ h
            have CB : Hid (Box W6 (S5 + 1 + 1 + 1 + 1 + 1 + 1 + 1 + 1 + 1) #[.bool false, .slice none 0 0, .slice none 0 0, .bool false, .slice (some ⟨S5, 0, none⟩) 1 1, .slice (some ⟨(S5 + 1), 0, none⟩) 1 1, .bool false, .slice (some ⟨(S5 + 1 + 1), 0, none⟩) 1 1, .slice (some ⟨(S5 + 1 + 1 + 1), 0, none⟩) 1 1, .bool true, .slice none 0 0, .slice (some ⟨(S5 + 1 + 1 + 1 + 1), 0, none⟩) 1 1, .bool false, .slice (some ⟨(S5 + 1 + 1 + 1 + 1 + 1), 0, none⟩) 33 33, .slice (some ⟨(S5 + 1 + 1 + 1 + 1 + 1 + 1), 0, none⟩) 1 1, .bool false, .slice (some ⟨(S5 + 1 + 1 + 1 + 1 + 1 + 1 + 1), 0, none⟩) 1 1, .slice none 0 0, .bool false, .slice none 0 0, .slice (some ⟨(S5 + 1 + 1 + 1 + 1 + 1 + 1 + 1 + 1), 0, none⟩) 1 1] 25) := hW6 ▸ bx.far (by first | (simp; done) | (simp; omega)) _
            replace HB : Hid (Below w.heap.size w W6) := hW6 ▸ HB.out.setCell (by first | (simp; omega) | omega) _
            clear hW6 q0 q1 q2 q3 q4 q5 q6 q7 q8 bx lx ly
            have O0 : Hid (IsF W6 (.agg #[.bool false, .slice none 0 0, .slice none 0 0]) (oddX 0)) := ⟨_, _, rfl, Sl.nil _, Sl.nil _⟩
            have O1 : Hid (IsF W6 (.agg #[.bool false, .slice (some ⟨S5, 0, none⟩) 1 1, .slice (some ⟨(S5 + 1), 0, none⟩) 1 1]) (oddX 1)) := ⟨_, _, rfl, Sl.of_row (l := [0]) p0 (fun x hx => by simp at hx; omega) (Nat.le_refl _) (by simp), Sl.of_row (l := [1]) p1 (fun x hx => by simp at hx; omega) (Nat.le_refl _) (by simp)⟩
            have O2 : Hid (IsF W6 (.agg #[.bool false, .slice (some ⟨(S5 + 1 + 1), 0, none⟩) 1 1, .slice (some ⟨(S5 + 1 + 1 + 1), 0, none⟩) 1 1]) (oddX 2)) := ⟨_, _, rfl, Sl.of_row (l := [2]) p2 (fun x hx => by simp at hx; omega) (Nat.le_refl _) (by simp), Sl.of_row (l := [4]) p3 (fun x hx => by simp at hx; omega) (Nat.le_refl _) (by simp)⟩
            have O3 : Hid (IsF W6 (.agg #[.bool true, .slice none 0 0, .slice (some ⟨(S5 + 1 + 1 + 1 + 1), 0, none⟩) 1 1]) (oddX 3)) := ⟨_, _, rfl, Sl.nil _, Sl.of_row (l := [1]) p4 (fun x hx => by simp at hx; omega) (Nat.le_refl _) (by simp)⟩
            have O4 : Hid (IsF W6 (.agg #[.bool false, .slice (some ⟨(S5 + 1 + 1 + 1 + 1 + 1), 0, none⟩) 33 33, .slice (some ⟨(S5 + 1 + 1 + 1 + 1 + 1 + 1), 0, none⟩) 1 1]) (oddX 4)) := ⟨_, _, rfl, Sl.of_row (l := List.replicate 32 0 ++ [1]) p5 (fun x hx => by simp at hx; omega) (Nat.le_refl _) (by simp), Sl.of_row (l := [1]) p6 (fun x hx => by simp at hx; omega) (Nat.le_refl _) (by simp)⟩
            have O5 : Hid (IsF W6 (.agg #[.bool false, .slice (some ⟨(S5 + 1 + 1 + 1 + 1 + 1 + 1 + 1), 0, none⟩) 1 1, .slice none 0 0]) (oddX 5)) := ⟨_, _, rfl, Sl.of_row (l := [1]) p7 (fun x hx => by simp at hx; omega) (Nat.le_refl _) (by simp), Sl.nil _⟩
            have O6 : Hid (IsF W6 (.agg #[.bool false, .slice none 0 0, .slice (some ⟨(S5 + 1 + 1 + 1 + 1 + 1 + 1 + 1 + 1), 0, none⟩) 1 1]) (oddX 6)) := ⟨_, _, rfl, Sl.nil _, Sl.of_row (l := [2]) p8 (fun x hx => by simp at hx; omega) (Nat.le_refl _) (by simp)⟩
            clear p0 p1 p2 p3 p4 p5 p6 p7 p8
            have LB9 := CB.out.lt
            go_wp2_with fail
            go_loopg [18] 7 (fun g t wx => ∃ i : Nat, i ≤ 7 ∧ g = 7 - i ∧ t = .int .i64 (i : Int) ∧ Hid (Below W6.heap.size W6 wx))
            case atStart => exact ⟨0, by omega, rfl, rfl, Below.refl _ _⟩
            case round =>
              obtain ⟨i, hi, rfl, rfl, hbl⟩ := hrel
              by_cases hlt : i < 7
              · have hinv := Lib.hid (odd_inv i hlt)
                rcases (show i = 0 ∨ i = 1 ∨ i = 2 ∨ i = 3 ∨ i = 4 ∨ i = 5 ∨ i = 6 by omega) with rfl | rfl | rfl | rfl | rfl | rfl | rfl
                · rw [show ((0 : Nat) : Int) = 0 from rfl]
                  have x0 : wr.cell? ⟨(S5 + 1 + 1 + 1 + 1 + 1 + 1 + 1 + 1 + 1), 0, none⟩ = some (.bool false) := (CB.out.after hbl.out).cell 0
                  have x1 : wr.cell? ⟨(S5 + 1 + 1 + 1 + 1 + 1 + 1 + 1 + 1 + 1), 1, none⟩ = some (.slice none 0 0) := (CB.out.after hbl.out).cell 1
                  have x2 : wr.cell? ⟨(S5 + 1 + 1 + 1 + 1 + 1 + 1 + 1 + 1 + 1), 2, none⟩ = some (.slice none 0 0) := (CB.out.after hbl.out).cell 2
                  have xl := Nat.lt_of_lt_of_le LB9 hbl.out.size
                  go_wp2_with fail
                  refine (Floor_c _ _ (oddX 0) (O0.out.after hbl.out)).mono ?_
                  rw [floorF_no hinv.out]
                  rintro e w51 ⟨v1, rfl, _, hb51⟩
                  clear x0 x1 x2 xl
                  replace hbl := Lib.hid (hbl.out.trans (hb51.mono hbl.out.size))
                  clear hb51
                  have x0 : w51.cell? ⟨(S5 + 1 + 1 + 1 + 1 + 1 + 1 + 1 + 1 + 1), 0, none⟩ = some (.bool false) := (CB.out.after hbl.out).cell 0
                  have x1 : w51.cell? ⟨(S5 + 1 + 1 + 1 + 1 + 1 + 1 + 1 + 1 + 1), 1, none⟩ = some (.slice none 0 0) := (CB.out.after hbl.out).cell 1
                  have x2 : w51.cell? ⟨(S5 + 1 + 1 + 1 + 1 + 1 + 1 + 1 + 1 + 1), 2, none⟩ = some (.slice none 0 0) := (CB.out.after hbl.out).cell 2
                  have xl := Nat.lt_of_lt_of_le LB9 hbl.out.size
                  go_wp2_with fail
                  refine (Nearest_c _ _ (oddX 0) 0 (O0.out.after hbl.out) (by omega) (by omega)).mono ?_
                  rw [nearF_no hinv.out]
                  rintro e w52 ⟨v2, rfl, _, hb52⟩
                  clear x0 x1 x2 xl
                  replace hbl := Lib.hid (hbl.out.trans (hb52.mono hbl.out.size))
                  clear hb52
                  have x0 : w52.cell? ⟨(S5 + 1 + 1 + 1 + 1 + 1 + 1 + 1 + 1 + 1), 0, none⟩ = some (.bool false) := (CB.out.after hbl.out).cell 0
                  have x1 : w52.cell? ⟨(S5 + 1 + 1 + 1 + 1 + 1 + 1 + 1 + 1 + 1), 1, none⟩ = some (.slice none 0 0) := (CB.out.after hbl.out).cell 1
                  have x2 : w52.cell? ⟨(S5 + 1 + 1 + 1 + 1 + 1 + 1 + 1 + 1 + 1), 2, none⟩ = some (.slice none 0 0) := (CB.out.after hbl.out).cell 2
                  have xl := Nat.lt_of_lt_of_le LB9 hbl.out.size
                  go_wp2_with fail
                  refine (Valid_c _ _ (oddX 0) (O0.out.after hbl.out)).mono ?_
                  intro e w53 hr
                  obtain ⟨rfl, hb53⟩ := hr.no hinv.out
                  clear hr x0 x1 x2 xl
                  replace hbl := Lib.hid (hbl.out.trans (hb53.mono hbl.out.size))
                  clear hb53
                  have x0 : w53.cell? ⟨(S5 + 1 + 1 + 1 + 1 + 1 + 1 + 1 + 1 + 1), 0, none⟩ = some (.bool false) := (CB.out.after hbl.out).cell 0
                  have x1 : w53.cell? ⟨(S5 + 1 + 1 + 1 + 1 + 1 + 1 + 1 + 1 + 1), 1, none⟩ = some (.slice none 0 0) := (CB.out.after hbl.out).cell 1
                  have x2 : w53.cell? ⟨(S5 + 1 + 1 + 1 + 1 + 1 + 1 + 1 + 1 + 1), 2, none⟩ = some (.slice none 0 0) := (CB.out.after hbl.out).cell 2
                  have xl := Nat.lt_of_lt_of_le LB9 hbl.out.size
                  go_wp2_with fail
                  refine (Text_c _ _ (oddX 0) (O0.out.after hbl.out)).mono ?_
                  rw [textX_no hinv.out]
                  rintro e w54 ⟨rfl, hb54⟩
                  clear x0 x1 x2 xl
                  replace hbl := Lib.hid (hbl.out.trans (hb54.mono hbl.out.size))
                  clear hb54
                  go_wp2_with fail
                  go_roundg 6
                  case measure => omega
                  case rel => exact ⟨1, by omega, rfl, (by first | rfl | go_num), hbl⟩
                · rw [show ((1 : Nat) : Int) = 1 from rfl]
                  have x0 : wr.cell? ⟨(S5 + 1 + 1 + 1 + 1 + 1 + 1 + 1 + 1 + 1), 3, none⟩ = some (.bool false) := (CB.out.after hbl.out).cell 3
                  have x1 : wr.cell? ⟨(S5 + 1 + 1 + 1 + 1 + 1 + 1 + 1 + 1 + 1), 4, none⟩ = some (.slice (some ⟨S5, 0, none⟩) 1 1) := (CB.out.after hbl.out).cell 4
                  have x2 : wr.cell? ⟨(S5 + 1 + 1 + 1 + 1 + 1 + 1 + 1 + 1 + 1), 5, none⟩ = some (.slice (some ⟨(S5 + 1), 0, none⟩) 1 1) := (CB.out.after hbl.out).cell 5
                  have xl := Nat.lt_of_lt_of_le LB9 hbl.out.size
                  go_wp2_with fail
                  refine (Floor_c _ _ (oddX 1) (O1.out.after hbl.out)).mono ?_
                  rw [floorF_no hinv.out]
                  rintro e w51 ⟨v1, rfl, _, hb51⟩
                  clear x0 x1 x2 xl
                  replace hbl := Lib.hid (hbl.out.trans (hb51.mono hbl.out.size))
                  clear hb51
                  have x0 : w51.cell? ⟨(S5 + 1 + 1 + 1 + 1 + 1 + 1 + 1 + 1 + 1), 3, none⟩ = some (.bool false) := (CB.out.after hbl.out).cell 3
                  have x1 : w51.cell? ⟨(S5 + 1 + 1 + 1 + 1 + 1 + 1 + 1 + 1 + 1), 4, none⟩ = some (.slice (some ⟨S5, 0, none⟩) 1 1) := (CB.out.after hbl.out).cell 4
                  have x2 : w51.cell? ⟨(S5 + 1 + 1 + 1 + 1 + 1 + 1 + 1 + 1 + 1), 5, none⟩ = some (.slice (some ⟨(S5 + 1), 0, none⟩) 1 1) := (CB.out.after hbl.out).cell 5
                  have xl := Nat.lt_of_lt_of_le LB9 hbl.out.size
                  go_wp2_with fail
                  refine (Nearest_c _ _ (oddX 1) 0 (O1.out.after hbl.out) (by omega) (by omega)).mono ?_
                  rw [nearF_no hinv.out]
                  rintro e w52 ⟨v2, rfl, _, hb52⟩
                  clear x0 x1 x2 xl
                  replace hbl := Lib.hid (hbl.out.trans (hb52.mono hbl.out.size))
                  clear hb52
                  have x0 : w52.cell? ⟨(S5 + 1 + 1 + 1 + 1 + 1 + 1 + 1 + 1 + 1), 3, none⟩ = some (.bool false) := (CB.out.after hbl.out).cell 3
                  have x1 : w52.cell? ⟨(S5 + 1 + 1 + 1 + 1 + 1 + 1 + 1 + 1 + 1), 4, none⟩ = some (.slice (some ⟨S5, 0, none⟩) 1 1) := (CB.out.after hbl.out).cell 4
                  have x2 : w52.cell? ⟨(S5 + 1 + 1 + 1 + 1 + 1 + 1 + 1 + 1 + 1), 5, none⟩ = some (.slice (some ⟨(S5 + 1), 0, none⟩) 1 1) := (CB.out.after hbl.out).cell 5
                  have xl := Nat.lt_of_lt_of_le LB9 hbl.out.size
                  go_wp2_with fail
                  refine (Valid_c _ _ (oddX 1) (O1.out.after hbl.out)).mono ?_
                  intro e w53 hr
                  obtain ⟨rfl, hb53⟩ := hr.no hinv.out
                  clear hr x0 x1 x2 xl
                  replace hbl := Lib.hid (hbl.out.trans (hb53.mono hbl.out.size))
                  clear hb53
                  have x0 : w53.cell? ⟨(S5 + 1 + 1 + 1 + 1 + 1 + 1 + 1 + 1 + 1), 3, none⟩ = some (.bool false) := (CB.out.after hbl.out).cell 3
                  have x1 : w53.cell? ⟨(S5 + 1 + 1 + 1 + 1 + 1 + 1 + 1 + 1 + 1), 4, none⟩ = some (.slice (some ⟨S5, 0, none⟩) 1 1) := (CB.out.after hbl.out).cell 4
                  have x2 : w53.cell? ⟨(S5 + 1 + 1 + 1 + 1 + 1 + 1 + 1 + 1 + 1), 5, none⟩ = some (.slice (some ⟨(S5 + 1), 0, none⟩) 1 1) := (CB.out.after hbl.out).cell 5
                  have xl := Nat.lt_of_lt_of_le LB9 hbl.out.size
                  go_wp2_with fail
                  refine (Text_c _ _ (oddX 1) (O1.out.after hbl.out)).mono ?_
                  rw [textX_no hinv.out]
                  rintro e w54 ⟨rfl, hb54⟩
                  clear x0 x1 x2 xl
                  replace hbl := Lib.hid (hbl.out.trans (hb54.mono hbl.out.size))
                  clear hb54
                  go_wp2_with fail
                  go_roundg 5
                  case measure => omega
                  case rel => exact ⟨2, by omega, rfl, (by first | rfl | go_num), hbl⟩
                · rw [show ((2 : Nat) : Int) = 2 from rfl]
                  have x0 : wr.cell? ⟨(S5 + 1 + 1 + 1 + 1 + 1 + 1 + 1 + 1 + 1), 6, none⟩ = some (.bool false) := (CB.out.after hbl.out).cell 6
                  have x1 : wr.cell? ⟨(S5 + 1 + 1 + 1 + 1 + 1 + 1 + 1 + 1 + 1), 7, none⟩ = some (.slice (some ⟨(S5 + 1 + 1), 0, none⟩) 1 1) := (CB.out.after hbl.out).cell 7
                  have x2 : wr.cell? ⟨(S5 + 1 + 1 + 1 + 1 + 1 + 1 + 1 + 1 + 1), 8, none⟩ = some (.slice (some ⟨(S5 + 1 + 1 + 1), 0, none⟩) 1 1) := (CB.out.after hbl.out).cell 8
                  have xl := Nat.lt_of_lt_of_le LB9 hbl.out.size
                  go_wp2_with fail
                  refine (Floor_c _ _ (oddX 2) (O2.out.after hbl.out)).mono ?_
                  rw [floorF_no hinv.out]
                  rintro e w51 ⟨v1, rfl, _, hb51⟩
                  clear x0 x1 x2 xl
                  replace hbl := Lib.hid (hbl.out.trans (hb51.mono hbl.out.size))
                  clear hb51
                  have x0 : w51.cell? ⟨(S5 + 1 + 1 + 1 + 1 + 1 + 1 + 1 + 1 + 1), 6, none⟩ = some (.bool false) := (CB.out.after hbl.out).cell 6
                  have x1 : w51.cell? ⟨(S5 + 1 + 1 + 1 + 1 + 1 + 1 + 1 + 1 + 1), 7, none⟩ = some (.slice (some ⟨(S5 + 1 + 1), 0, none⟩) 1 1) := (CB.out.after hbl.out).cell 7
                  have x2 : w51.cell? ⟨(S5 + 1 + 1 + 1 + 1 + 1 + 1 + 1 + 1 + 1), 8, none⟩ = some (.slice (some ⟨(S5 + 1 + 1 + 1), 0, none⟩) 1 1) := (CB.out.after hbl.out).cell 8
                  have xl := Nat.lt_of_lt_of_le LB9 hbl.out.size
                  go_wp2_with fail
                  refine (Nearest_c _ _ (oddX 2) 0 (O2.out.after hbl.out) (by omega) (by omega)).mono ?_
                  rw [nearF_no hinv.out]
                  rintro e w52 ⟨v2, rfl, _, hb52⟩
                  clear x0 x1 x2 xl
                  replace hbl := Lib.hid (hbl.out.trans (hb52.mono hbl.out.size))
                  clear hb52
                  have x0 : w52.cell? ⟨(S5 + 1 + 1 + 1 + 1 + 1 + 1 + 1 + 1 + 1), 6, none⟩ = some (.bool false) := (CB.out.after hbl.out).cell 6
                  have x1 : w52.cell? ⟨(S5 + 1 + 1 + 1 + 1 + 1 + 1 + 1 + 1 + 1), 7, none⟩ = some (.slice (some ⟨(S5 + 1 + 1), 0, none⟩) 1 1) := (CB.out.after hbl.out).cell 7
                  have x2 : w52.cell? ⟨(S5 + 1 + 1 + 1 + 1 + 1 + 1 + 1 + 1 + 1), 8, none⟩ = some (.slice (some ⟨(S5 + 1 + 1 + 1), 0, none⟩) 1 1) := (CB.out.after hbl.out).cell 8
                  have xl := Nat.lt_of_lt_of_le LB9 hbl.out.size
                  go_wp2_with fail
                  refine (Valid_c _ _ (oddX 2) (O2.out.after hbl.out)).mono ?_
                  intro e w53 hr
                  obtain ⟨rfl, hb53⟩ := hr.no hinv.out
                  clear hr x0 x1 x2 xl
                  replace hbl := Lib.hid (hbl.out.trans (hb53.mono hbl.out.size))
                  clear hb53
                  have x0 : w53.cell? ⟨(S5 + 1 + 1 + 1 + 1 + 1 + 1 + 1 + 1 + 1), 6, none⟩ = some (.bool false) := (CB.out.after hbl.out).cell 6
                  have x1 : w53.cell? ⟨(S5 + 1 + 1 + 1 + 1 + 1 + 1 + 1 + 1 + 1), 7, none⟩ = some (.slice (some ⟨(S5 + 1 + 1), 0, none⟩) 1 1) := (CB.out.after hbl.out).cell 7
                  have x2 : w53.cell? ⟨(S5 + 1 + 1 + 1 + 1 + 1 + 1 + 1 + 1 + 1), 8, none⟩ = some (.slice (some ⟨(S5 + 1 + 1 + 1), 0, none⟩) 1 1) := (CB.out.after hbl.out).cell 8
                  have xl := Nat.lt_of_lt_of_le LB9 hbl.out.size
                  go_wp2_with fail
                  refine (Text_c _ _ (oddX 2) (O2.out.after hbl.out)).mono ?_
                  rw [textX_no hinv.out]
                  rintro e w54 ⟨rfl, hb54⟩
                  clear x0 x1 x2 xl
                  replace hbl := Lib.hid (hbl.out.trans (hb54.mono hbl.out.size))
                  clear hb54
                  go_wp2_with fail
                  go_roundg 4
                  case measure => omega
                  case rel => exact ⟨3, by omega, rfl, (by first | rfl | go_num), hbl⟩
                · rw [show ((3 : Nat) : Int) = 3 from rfl]
                  have x0 : wr.cell? ⟨(S5 + 1 + 1 + 1 + 1 + 1 + 1 + 1 + 1 + 1), 9, none⟩ = some (.bool true) := (CB.out.after hbl.out).cell 9
                  have x1 : wr.cell? ⟨(S5 + 1 + 1 + 1 + 1 + 1 + 1 + 1 + 1 + 1), 10, none⟩ = some (.slice none 0 0) := (CB.out.after hbl.out).cell 10
                  have x2 : wr.cell? ⟨(S5 + 1 + 1 + 1 + 1 + 1 + 1 + 1 + 1 + 1), 11, none⟩ = some (.slice (some ⟨(S5 + 1 + 1 + 1 + 1), 0, none⟩) 1 1) := (CB.out.after hbl.out).cell 11
                  have xl := Nat.lt_of_lt_of_le LB9 hbl.out.size
                  go_wp2_with fail
                  refine (Floor_c _ _ (oddX 3) (O3.out.after hbl.out)).mono ?_
                  rw [floorF_no hinv.out]
                  rintro e w51 ⟨v1, rfl, _, hb51⟩
                  clear x0 x1 x2 xl
                  replace hbl := Lib.hid (hbl.out.trans (hb51.mono hbl.out.size))
                  clear hb51
                  have x0 : w51.cell? ⟨(S5 + 1 + 1 + 1 + 1 + 1 + 1 + 1 + 1 + 1), 9, none⟩ = some (.bool true) := (CB.out.after hbl.out).cell 9
                  have x1 : w51.cell? ⟨(S5 + 1 + 1 + 1 + 1 + 1 + 1 + 1 + 1 + 1), 10, none⟩ = some (.slice none 0 0) := (CB.out.after hbl.out).cell 10
                  have x2 : w51.cell? ⟨(S5 + 1 + 1 + 1 + 1 + 1 + 1 + 1 + 1 + 1), 11, none⟩ = some (.slice (some ⟨(S5 + 1 + 1 + 1 + 1), 0, none⟩) 1 1) := (CB.out.after hbl.out).cell 11
                  have xl := Nat.lt_of_lt_of_le LB9 hbl.out.size
                  go_wp2_with fail
                  refine (Nearest_c _ _ (oddX 3) 0 (O3.out.after hbl.out) (by omega) (by omega)).mono ?_
                  rw [nearF_no hinv.out]
                  rintro e w52 ⟨v2, rfl, _, hb52⟩
                  clear x0 x1 x2 xl
                  replace hbl := Lib.hid (hbl.out.trans (hb52.mono hbl.out.size))
                  clear hb52
                  have x0 : w52.cell? ⟨(S5 + 1 + 1 + 1 + 1 + 1 + 1 + 1 + 1 + 1), 9, none⟩ = some (.bool true) := (CB.out.after hbl.out).cell 9
                  have x1 : w52.cell? ⟨(S5 + 1 + 1 + 1 + 1 + 1 + 1 + 1 + 1 + 1), 10, none⟩ = some (.slice none 0 0) := (CB.out.after hbl.out).cell 10
                  have x2 : w52.cell? ⟨(S5 + 1 + 1 + 1 + 1 + 1 + 1 + 1 + 1 + 1), 11, none⟩ = some (.slice (some ⟨(S5 + 1 + 1 + 1 + 1), 0, none⟩) 1 1) := (CB.out.after hbl.out).cell 11
                  have xl := Nat.lt_of_lt_of_le LB9 hbl.out.size
                  go_wp2_with fail
                  refine (Valid_c _ _ (oddX 3) (O3.out.after hbl.out)).mono ?_
                  intro e w53 hr
                  obtain ⟨rfl, hb53⟩ := hr.no hinv.out
                  clear hr x0 x1 x2 xl
                  replace hbl := Lib.hid (hbl.out.trans (hb53.mono hbl.out.size))
                  clear hb53
                  have x0 : w53.cell? ⟨(S5 + 1 + 1 + 1 + 1 + 1 + 1 + 1 + 1 + 1), 9, none⟩ = some (.bool true) := (CB.out.after hbl.out).cell 9
                  have x1 : w53.cell? ⟨(S5 + 1 + 1 + 1 + 1 + 1 + 1 + 1 + 1 + 1), 10, none⟩ = some (.slice none 0 0) := (CB.out.after hbl.out).cell 10
                  have x2 : w53.cell? ⟨(S5 + 1 + 1 + 1 + 1 + 1 + 1 + 1 + 1 + 1), 11, none⟩ = some (.slice (some ⟨(S5 + 1 + 1 + 1 + 1), 0, none⟩) 1 1) := (CB.out.after hbl.out).cell 11
                  have xl := Nat.lt_of_lt_of_le LB9 hbl.out.size
                  go_wp2_with fail
                  refine (Text_c _ _ (oddX 3) (O3.out.after hbl.out)).mono ?_
                  rw [textX_no hinv.out]
                  rintro e w54 ⟨rfl, hb54⟩
                  clear x0 x1 x2 xl
                  replace hbl := Lib.hid (hbl.out.trans (hb54.mono hbl.out.size))
                  clear hb54
                  go_wp2_with fail
                  go_roundg 3
                  case measure => omega
                  case rel => exact ⟨4, by omega, rfl, (by first | rfl | go_num), hbl⟩
                · rw [show ((4 : Nat) : Int) = 4 from rfl]
                  have x0 : wr.cell? ⟨(S5 + 1 + 1 + 1 + 1 + 1 + 1 + 1 + 1 + 1), 12, none⟩ = some (.bool false) := (CB.out.after hbl.out).cell 12
                  have x1 : wr.cell? ⟨(S5 + 1 + 1 + 1 + 1 + 1 + 1 + 1 + 1 + 1), 13, none⟩ = some (.slice (some ⟨(S5 + 1 + 1 + 1 + 1 + 1), 0, none⟩) 33 33) := (CB.out.after hbl.out).cell 13
                  have x2 : wr.cell? ⟨(S5 + 1 + 1 + 1 + 1 + 1 + 1 + 1 + 1 + 1), 14, none⟩ = some (.slice (some ⟨(S5 + 1 + 1 + 1 + 1 + 1 + 1), 0, none⟩) 1 1) := (CB.out.after hbl.out).cell 14
                  have xl := Nat.lt_of_lt_of_le LB9 hbl.out.size
                  go_wp2_with fail
                  refine (Floor_c _ _ (oddX 4) (O4.out.after hbl.out)).mono ?_
                  rw [floorF_no hinv.out]
                  rintro e w51 ⟨v1, rfl, _, hb51⟩
                  clear x0 x1 x2 xl
                  replace hbl := Lib.hid (hbl.out.trans (hb51.mono hbl.out.size))
                  clear hb51
                  have x0 : w51.cell? ⟨(S5 + 1 + 1 + 1 + 1 + 1 + 1 + 1 + 1 + 1), 12, none⟩ = some (.bool false) := (CB.out.after hbl.out).cell 12
                  have x1 : w51.cell? ⟨(S5 + 1 + 1 + 1 + 1 + 1 + 1 + 1 + 1 + 1), 13, none⟩ = some (.slice (some ⟨(S5 + 1 + 1 + 1 + 1 + 1), 0, none⟩) 33 33) := (CB.out.after hbl.out).cell 13
                  have x2 : w51.cell? ⟨(S5 + 1 + 1 + 1 + 1 + 1 + 1 + 1 + 1 + 1), 14, none⟩ = some (.slice (some ⟨(S5 + 1 + 1 + 1 + 1 + 1 + 1), 0, none⟩) 1 1) := (CB.out.after hbl.out).cell 14
                  have xl := Nat.lt_of_lt_of_le LB9 hbl.out.size
                  go_wp2_with fail
                  refine (Nearest_c _ _ (oddX 4) 0 (O4.out.after hbl.out) (by omega) (by omega)).mono ?_
                  rw [nearF_no hinv.out]
                  rintro e w52 ⟨v2, rfl, _, hb52⟩
                  clear x0 x1 x2 xl
                  replace hbl := Lib.hid (hbl.out.trans (hb52.mono hbl.out.size))
                  clear hb52
                  have x0 : w52.cell? ⟨(S5 + 1 + 1 + 1 + 1 + 1 + 1 + 1 + 1 + 1), 12, none⟩ = some (.bool false) := (CB.out.after hbl.out).cell 12
                  have x1 : w52.cell? ⟨(S5 + 1 + 1 + 1 + 1 + 1 + 1 + 1 + 1 + 1), 13, none⟩ = some (.slice (some ⟨(S5 + 1 + 1 + 1 + 1 + 1), 0, none⟩) 33 33) := (CB.out.after hbl.out).cell 13
                  have x2 : w52.cell? ⟨(S5 + 1 + 1 + 1 + 1 + 1 + 1 + 1 + 1 + 1), 14, none⟩ = some (.slice (some ⟨(S5 + 1 + 1 + 1 + 1 + 1 + 1), 0, none⟩) 1 1) := (CB.out.after hbl.out).cell 14
                  have xl := Nat.lt_of_lt_of_le LB9 hbl.out.size
                  go_wp2_with fail
                  refine (Valid_c _ _ (oddX 4) (O4.out.after hbl.out)).mono ?_
                  intro e w53 hr
                  obtain ⟨rfl, hb53⟩ := hr.no hinv.out
                  clear hr x0 x1 x2 xl
                  replace hbl := Lib.hid (hbl.out.trans (hb53.mono hbl.out.size))
                  clear hb53
                  have x0 : w53.cell? ⟨(S5 + 1 + 1 + 1 + 1 + 1 + 1 + 1 + 1 + 1), 12, none⟩ = some (.bool false) := (CB.out.after hbl.out).cell 12
                  have x1 : w53.cell? ⟨(S5 + 1 + 1 + 1 + 1 + 1 + 1 + 1 + 1 + 1), 13, none⟩ = some (.slice (some ⟨(S5 + 1 + 1 + 1 + 1 + 1), 0, none⟩) 33 33) := (CB.out.after hbl.out).cell 13
                  have x2 : w53.cell? ⟨(S5 + 1 + 1 + 1 + 1 + 1 + 1 + 1 + 1 + 1), 14, none⟩ = some (.slice (some ⟨(S5 + 1 + 1 + 1 + 1 + 1 + 1), 0, none⟩) 1 1) := (CB.out.after hbl.out).cell 14
                  have xl := Nat.lt_of_lt_of_le LB9 hbl.out.size
                  go_wp2_with fail
                  refine (Text_c _ _ (oddX 4) (O4.out.after hbl.out)).mono ?_
                  rw [textX_no hinv.out]
                  rintro e w54 ⟨rfl, hb54⟩
                  clear x0 x1 x2 xl
                  replace hbl := Lib.hid (hbl.out.trans (hb54.mono hbl.out.size))
                  clear hb54
                  go_wp2_with fail
                  go_roundg 2
                  case measure => omega
                  case rel => exact ⟨5, by omega, rfl, (by first | rfl | go_num), hbl⟩
                · rw [show ((5 : Nat) : Int) = 5 from rfl]
                  have x0 : wr.cell? ⟨(S5 + 1 + 1 + 1 + 1 + 1 + 1 + 1 + 1 + 1), 15, none⟩ = some (.bool false) := (CB.out.after hbl.out).cell 15
                  have x1 : wr.cell? ⟨(S5 + 1 + 1 + 1 + 1 + 1 + 1 + 1 + 1 + 1), 16, none⟩ = some (.slice (some ⟨(S5 + 1 + 1 + 1 + 1 + 1 + 1 + 1), 0, none⟩) 1 1) := (CB.out.after hbl.out).cell 16
                  have x2 : wr.cell? ⟨(S5 + 1 + 1 + 1 + 1 + 1 + 1 + 1 + 1 + 1), 17, none⟩ = some (.slice none 0 0) := (CB.out.after hbl.out).cell 17
                  have xl := Nat.lt_of_lt_of_le LB9 hbl.out.size
                  go_wp2_with fail
                  refine (Floor_c _ _ (oddX 5) (O5.out.after hbl.out)).mono ?_
                  rw [floorF_no hinv.out]
                  rintro e w51 ⟨v1, rfl, _, hb51⟩
                  clear x0 x1 x2 xl
                  replace hbl := Lib.hid (hbl.out.trans (hb51.mono hbl.out.size))
                  clear hb51
                  have x0 : w51.cell? ⟨(S5 + 1 + 1 + 1 + 1 + 1 + 1 + 1 + 1 + 1), 15, none⟩ = some (.bool false) := (CB.out.after hbl.out).cell 15
                  have x1 : w51.cell? ⟨(S5 + 1 + 1 + 1 + 1 + 1 + 1 + 1 + 1 + 1), 16, none⟩ = some (.slice (some ⟨(S5 + 1 + 1 + 1 + 1 + 1 + 1 + 1), 0, none⟩) 1 1) := (CB.out.after hbl.out).cell 16
                  have x2 : w51.cell? ⟨(S5 + 1 + 1 + 1 + 1 + 1 + 1 + 1 + 1 + 1), 17, none⟩ = some (.slice none 0 0) := (CB.out.after hbl.out).cell 17
                  have xl := Nat.lt_of_lt_of_le LB9 hbl.out.size
                  go_wp2_with fail
                  refine (Nearest_c _ _ (oddX 5) 0 (O5.out.after hbl.out) (by omega) (by omega)).mono ?_
                  rw [nearF_no hinv.out]
                  rintro e w52 ⟨v2, rfl, _, hb52⟩
                  clear x0 x1 x2 xl
                  replace hbl := Lib.hid (hbl.out.trans (hb52.mono hbl.out.size))
                  clear hb52
                  have x0 : w52.cell? ⟨(S5 + 1 + 1 + 1 + 1 + 1 + 1 + 1 + 1 + 1), 15, none⟩ = some (.bool false) := (CB.out.after hbl.out).cell 15
                  have x1 : w52.cell? ⟨(S5 + 1 + 1 + 1 + 1 + 1 + 1 + 1 + 1 + 1), 16, none⟩ = some (.slice (some ⟨(S5 + 1 + 1 + 1 + 1 + 1 + 1 + 1), 0, none⟩) 1 1) := (CB.out.after hbl.out).cell 16
                  have x2 : w52.cell? ⟨(S5 + 1 + 1 + 1 + 1 + 1 + 1 + 1 + 1 + 1), 17, none⟩ = some (.slice none 0 0) := (CB.out.after hbl.out).cell 17
                  have xl := Nat.lt_of_lt_of_le LB9 hbl.out.size
                  go_wp2_with fail
                  refine (Valid_c _ _ (oddX 5) (O5.out.after hbl.out)).mono ?_
                  intro e w53 hr
                  obtain ⟨rfl, hb53⟩ := hr.no hinv.out
                  clear hr x0 x1 x2 xl
                  replace hbl := Lib.hid (hbl.out.trans (hb53.mono hbl.out.size))
                  clear hb53
                  have x0 : w53.cell? ⟨(S5 + 1 + 1 + 1 + 1 + 1 + 1 + 1 + 1 + 1), 15, none⟩ = some (.bool false) := (CB.out.after hbl.out).cell 15
                  have x1 : w53.cell? ⟨(S5 + 1 + 1 + 1 + 1 + 1 + 1 + 1 + 1 + 1), 16, none⟩ = some (.slice (some ⟨(S5 + 1 + 1 + 1 + 1 + 1 + 1 + 1), 0, none⟩) 1 1) := (CB.out.after hbl.out).cell 16
                  have x2 : w53.cell? ⟨(S5 + 1 + 1 + 1 + 1 + 1 + 1 + 1 + 1 + 1), 17, none⟩ = some (.slice none 0 0) := (CB.out.after hbl.out).cell 17
                  have xl := Nat.lt_of_lt_of_le LB9 hbl.out.size
                  go_wp2_with fail
                  refine (Text_c _ _ (oddX 5) (O5.out.after hbl.out)).mono ?_
                  rw [textX_no hinv.out]
                  rintro e w54 ⟨rfl, hb54⟩
                  clear x0 x1 x2 xl
                  replace hbl := Lib.hid (hbl.out.trans (hb54.mono hbl.out.size))
                  clear hb54
                  go_wp2_with fail
                  go_roundg 1
                  case measure => omega
                  case rel => exact ⟨6, by omega, rfl, (by first | rfl | go_num), hbl⟩
                · rw [show ((6 : Nat) : Int) = 6 from rfl]
                  have x0 : wr.cell? ⟨(S5 + 1 + 1 + 1 + 1 + 1 + 1 + 1 + 1 + 1), 18, none⟩ = some (.bool false) := (CB.out.after hbl.out).cell 18
                  have x1 : wr.cell? ⟨(S5 + 1 + 1 + 1 + 1 + 1 + 1 + 1 + 1 + 1), 19, none⟩ = some (.slice none 0 0) := (CB.out.after hbl.out).cell 19
                  have x2 : wr.cell? ⟨(S5 + 1 + 1 + 1 + 1 + 1 + 1 + 1 + 1 + 1), 20, none⟩ = some (.slice (some ⟨(S5 + 1 + 1 + 1 + 1 + 1 + 1 + 1 + 1), 0, none⟩) 1 1) := (CB.out.after hbl.out).cell 20
                  have xl := Nat.lt_of_lt_of_le LB9 hbl.out.size
                  go_wp2_with fail
                  refine (Floor_c _ _ (oddX 6) (O6.out.after hbl.out)).mono ?_
                  rw [floorF_no hinv.out]
                  rintro e w51 ⟨v1, rfl, _, hb51⟩
                  clear x0 x1 x2 xl
                  replace hbl := Lib.hid (hbl.out.trans (hb51.mono hbl.out.size))
                  clear hb51
                  have x0 : w51.cell? ⟨(S5 + 1 + 1 + 1 + 1 + 1 + 1 + 1 + 1 + 1), 18, none⟩ = some (.bool false) := (CB.out.after hbl.out).cell 18
                  have x1 : w51.cell? ⟨(S5 + 1 + 1 + 1 + 1 + 1 + 1 + 1 + 1 + 1), 19, none⟩ = some (.slice none 0 0) := (CB.out.after hbl.out).cell 19
                  have x2 : w51.cell? ⟨(S5 + 1 + 1 + 1 + 1 + 1 + 1 + 1 + 1 + 1), 20, none⟩ = some (.slice (some ⟨(S5 + 1 + 1 + 1 + 1 + 1 + 1 + 1 + 1), 0, none⟩) 1 1) := (CB.out.after hbl.out).cell 20
                  have xl := Nat.lt_of_lt_of_le LB9 hbl.out.size
                  go_wp2_with fail
                  refine (Nearest_c _ _ (oddX 6) 0 (O6.out.after hbl.out) (by omega) (by omega)).mono ?_
                  rw [nearF_no hinv.out]
                  rintro e w52 ⟨v2, rfl, _, hb52⟩
                  clear x0 x1 x2 xl
                  replace hbl := Lib.hid (hbl.out.trans (hb52.mono hbl.out.size))
                  clear hb52
                  have x0 : w52.cell? ⟨(S5 + 1 + 1 + 1 + 1 + 1 + 1 + 1 + 1 + 1), 18, none⟩ = some (.bool false) := (CB.out.after hbl.out).cell 18
                  have x1 : w52.cell? ⟨(S5 + 1 + 1 + 1 + 1 + 1 + 1 + 1 + 1 + 1), 19, none⟩ = some (.slice none 0 0) := (CB.out.after hbl.out).cell 19
                  have x2 : w52.cell? ⟨(S5 + 1 + 1 + 1 + 1 + 1 + 1 + 1 + 1 + 1), 20, none⟩ = some (.slice (some ⟨(S5 + 1 + 1 + 1 + 1 + 1 + 1 + 1 + 1), 0, none⟩) 1 1) := (CB.out.after hbl.out).cell 20
                  have xl := Nat.lt_of_lt_of_le LB9 hbl.out.size
                  go_wp2_with fail
                  refine (Valid_c _ _ (oddX 6) (O6.out.after hbl.out)).mono ?_
                  intro e w53 hr
                  obtain ⟨rfl, hb53⟩ := hr.no hinv.out
                  clear hr x0 x1 x2 xl
                  replace hbl := Lib.hid (hbl.out.trans (hb53.mono hbl.out.size))
                  clear hb53
                  have x0 : w53.cell? ⟨(S5 + 1 + 1 + 1 + 1 + 1 + 1 + 1 + 1 + 1), 18, none⟩ = some (.bool false) := (CB.out.after hbl.out).cell 18
                  have x1 : w53.cell? ⟨(S5 + 1 + 1 + 1 + 1 + 1 + 1 + 1 + 1 + 1), 19, none⟩ = some (.slice none 0 0) := (CB.out.after hbl.out).cell 19
                  have x2 : w53.cell? ⟨(S5 + 1 + 1 + 1 + 1 + 1 + 1 + 1 + 1 + 1), 20, none⟩ = some (.slice (some ⟨(S5 + 1 + 1 + 1 + 1 + 1 + 1 + 1 + 1), 0, none⟩) 1 1) := (CB.out.after hbl.out).cell 20
                  have xl := Nat.lt_of_lt_of_le LB9 hbl.out.size
                  go_wp2_with fail
                  refine (Text_c _ _ (oddX 6) (O6.out.after hbl.out)).mono ?_
                  rw [textX_no hinv.out]
                  rintro e w54 ⟨rfl, hb54⟩
                  clear x0 x1 x2 xl
                  replace hbl := Lib.hid (hbl.out.trans (hb54.mono hbl.out.size))
                  clear hb54
                  go_wp2_with fail
                  go_roundg 0
                  case measure => omega
                  case rel => exact ⟨7, by omega, rfl, (by first | rfl | go_num), hbl⟩
              · obtain rfl : i = 7 := by omega
                have hd7 : decide ((7 : Int) < 7) = false := rfl
                replace HB := Lib.hid (HB.out.trans (hbl.out.mono HB.out.size))
                clear hbl CB LB9 O0 O1 O2 O3 O4 O5 O6 hlt hi
                rw [show ((7 : Nat) : Int) = 7 from rfl]
                go_upto_region 30 with fail
                obtain ⟨W7, hW7⟩ : ∃ W7, W7 = wr.alloc (.cells #[.string ⟨#[]⟩, .string ⟨#[47]⟩, .string ⟨#[49]⟩, .string ⟨#[49, 47]⟩, .string ⟨#[47, 49]⟩, .string ⟨#[54, 47, 52]⟩, .string ⟨#[45, 48, 47, 49]⟩, .string ⟨#[48, 49, 47, 50]⟩, .string ⟨#[49, 47, 48, 50]⟩, .string ⟨#[43, 49, 47, 50]⟩, .string ⟨#[49, 47, 50, 32]⟩, .string ⟨#[49, 47, 48]⟩, .string ⟨#[48, 47, 50]⟩, .string ⟨#[45, 45, 49, 47, 50]⟩, .string ⟨#[49, 47, 45, 50]⟩, .string ⟨#[49, 47, 50, 47, 51]⟩] 9) := ⟨_, rfl⟩
                have hb7 := below_same hW7
                obtain ⟨hb7, BT⟩ := after_new hb7
                rw [← hW7]
                clear hW7
                replace HB := Lib.hid (HB.out.trans (hb7.mono HB.out.size))
                obtain ⟨S7, hS7⟩ : ∃ S7, wr.heap.size = S7 := ⟨_, rfl⟩
                rw [hS7] at BT ⊢
                clear hS7 hb7
                have LT7 := BT.lt
                have HT : Hid (∀ j, j < 16 → W7.cell? ⟨S7, j, none⟩ = some (.string (bs (oddT j)))) := odd_cells BT
                clear BT
                go_wp2_with fail
                go_loopg [20] 16 (fun g t wx => ∃ j : Nat, j ≤ 16 ∧ g = 16 - j ∧ t = .int .i64 (j : Int) ∧ Hid (Below W7.heap.size W7 wx))
                case atStart => exact ⟨0, by omega, rfl, rfl, Below.refl _ _⟩
                case round =>
                  obtain ⟨j, hj, rfl, rfl, hbl⟩ := hrel
                  by_cases hlt : j < 16
                  · have hdl : decide ((j : Int) < 16) = true := decide_eq_true (by omega)
                    have hli : (j : Int) < 16 := by omega
                    have kc := keep_cell hbl.out (HT.out j hlt)
                    have klt := Nat.lt_of_lt_of_le LT7 hbl.out.size
                    have HR := Lib.hid (odd_text j hlt)
                    have HL := Lib.hid (oddT_len j)
                    go_wp2_with fail
                    refine (Read_c _ (oddT j) HL.out).mono ?_
                    rw [HR.out]
                    rintro e w61 ⟨v1, rfl, _, hb61⟩
                    replace hbl := Lib.hid (hbl.out.trans (hb61.mono hbl.out.size))
                    clear hb61 kc klt
                    go_wp2_with fail
                    go_roundg (16 - (j + 1))
                    case measure => omega
                    case rel => exact ⟨j + 1, by omega, rfl, by go_num, hbl⟩
                  · obtain rfl : j = 16 := by omega
                    have hd7 : decide ((16 : Int) < 16) = false := rfl
                    replace HB := Lib.hid (HB.out.trans (hbl.out.mono HB.out.size))
                    clear hbl HT LT7 hlt hj
                    rw [show ((16 : Nat) : Int) = 16 from rfl]
                    obtain ⟨fP, hfP⟩ : ∃ x : F, fr false 314159 100000 = x := ⟨_, rfl⟩
                    obtain ⟨f22, hf22⟩ : ∃ x : F, fr false 22 7 = x := ⟨_, rfl⟩
                    obtain ⟨f35, hf35⟩ : ∃ x : F, fr false 355 113 = x := ⟨_, rfl⟩
                    obtain ⟨fm12, hfm12⟩ : ∃ x : F, fr true 1 2 = x := ⟨_, rfl⟩
                    obtain ⟨fm11, hfm11⟩ : ∃ x : F, fr true 1 1 = x := ⟨_, rfl⟩
                    obtain ⟨f31, hf31⟩ : ∃ x : F, fr false 31 10 = x := ⟨_, rfl⟩
                    obtain ⟨f3, hf3⟩ : ∃ x : F, fr false 3 1 = x := ⟨_, rfl⟩
                    obtain ⟨f72, hf72⟩ : ∃ x : F, fr true 7 2 = x := ⟨_, rfl⟩
                    obtain ⟨f52, hf52⟩ : ∃ x : F, fr true 5 2 = x := ⟨_, rfl⟩
                    obtain ⟨fm3, hfm3⟩ : ∃ x : F, fr true 3 1 = x := ⟨_, rfl⟩
                    have E1 : Hid (ofF 314159 100000 = (fP, 0)) := by show _ = _; rw [← hfP]; exact k_pi
                    have E2 : Hid (nearF fP 10 = (f22, 0)) := by show _ = _; rw [← hfP, ← hf22]; exact k_near10
                    have E3 : Hid (nearF fP 1000 = (f35, 0)) := by show _ = _; rw [← hfP, ← hf35]; exact k_near1000
                    have E4 : Hid (nearF fP 1001 = (F0, 2)) := by show _ = _; rw [← hfP]; exact k_near1001
                    have E5 : Hid (smallF (-1) 2 = fm12) := by show _ = _; rw [← hfm12]; exact k_sm12
                    have E6 : Hid (nearF fm12 1 = (fm11, 0)) := by show _ = _; rw [← hfm12, ← hfm11]; exact k_nearm
                    have E7 : Hid (smallF 31 10 = f31) := by show _ = _; rw [← hf31]; exact k_s3110
                    have E8 : Hid (smallF 22 7 = f22) := by show _ = _; rw [← hf22]; exact k_s227
                    have E9 : Hid (simplestF f31 f22 = (f22, 0)) := by show _ = _; rw [← hf31, ← hf22]; exact k_simp1
                    have E10 : Hid (smallF 3 1 = f3) := by show _ = _; rw [← hf3]; exact k_s31
                    have E11 : Hid (simplestF fP f3 = (F0, 2)) := by show _ = _; rw [← hfP, ← hf3]; exact k_simp2
                    have E12 : Hid (smallF (-7) 2 = f72) := by show _ = _; rw [← hf72]; exact k_sm72
                    have E13 : Hid (smallF (-5) 2 = f52) := by show _ = _; rw [← hf52]; exact k_sm52
                    have E14 : Hid (simplestF f72 f52 = (fm3, 0)) := by show _ = _; rw [← hf72, ← hf52, ← hfm3]; exact k_simp3
                    have U1 : Hid (textX f22 = ⟨#[50, 50, 47, 55]⟩) := by show _ = _; rw [← hf22]; exact t_227
                    have U2 : Hid (textX f35 = ⟨#[51, 53, 53, 47, 49, 49, 51]⟩) := by show _ = _; rw [← hf35]; exact t_355
                    have U3 : Hid (textX fm11 = ⟨#[45, 49, 47, 49]⟩) := by show _ = _; rw [← hfm11]; exact t_m11
                    have U4 : Hid (textX fm3 = ⟨#[45, 51, 47, 49]⟩) := by show _ = _; rw [← hfm3]; exact t_m31
                    clear hfP hf22 hf35 hfm12 hfm11 hf31 hf3 hf72 hf52 hfm3
                    go_wp2_with fail
                    refine (Of_c _ 314159 100000 (by omega) (by omega) (by omega) (by omega)).mono ?_
                    rw [E1.out]
                    rintro e w71 ⟨v, rfl, hv, hb71⟩
                    have hv : IsF _ v (fP) := hv
                    obtain ⟨va, vb, rfl, h1, h2⟩ := hv
                    obtain ⟨pP, mP, rfl, _, _⟩ := h1.shape
                    obtain ⟨qP, nP, rfl, _, _⟩ := h2.shape
                    have FP := Lib.hid (IsF.at_ h1 h2)
                    clear h1 h2
                    replace HB := Lib.hid (HB.out.trans (hb71.mono HB.out.size))
                    clear hb71
                    have g_P : w.heap.size ≤ w71.heap.size := by have := HB.out.size; omega
                    go_wp2_with fail
                    refine (Nearest_c _ _ fP 10 (FP.out.alloc _) (by omega) (by omega)).mono ?_
                    rw [E2.out]
                    rintro e w72 ⟨v, rfl, hv, hb72⟩
                    have hv : IsF _ v (f22) := hv
                    obtain ⟨va, vb, rfl, h1, h2⟩ := hv
                    obtain ⟨pA, mA, rfl, _, _⟩ := h1.shape
                    obtain ⟨qA, nA, rfl, _, _⟩ := h2.shape
                    have FA := Lib.hid (IsF.at_ h1 h2)
                    clear h1 h2
                    obtain ⟨hb72, CP⟩ := after_new hb72
                    replace CP := Lib.hid CP
                    replace FP := Lib.hid (FP.out.after hb72)
                    replace HB := Lib.hid (HB.out.trans (hb72.mono HB.out.size))
                    clear hb72
                    have d_P_A : w71.heap.size < w72.heap.size := CP.out.lt
                    have g_A : w.heap.size ≤ w72.heap.size := by have := HB.out.size; omega
                    obtain ⟨cP0, cP1, cP2⟩ := CP.out.cells3
                    have ltP := CP.out.lt
                    go_wp2_with fail
                    refine (Nearest_c _ _ fP 1000 (FP.out.alloc _) (by omega) (by omega)).mono ?_
                    rw [E3.out]
                    rintro e w73 ⟨v, rfl, hv, hb73⟩
                    have hv : IsF _ v (f35) := hv
                    obtain ⟨va, vb, rfl, h1, h2⟩ := hv
                    obtain ⟨pB, mB, rfl, _, _⟩ := h1.shape
                    obtain ⟨qB, nB, rfl, _, _⟩ := h2.shape
                    have FB := Lib.hid (IsF.at_ h1 h2)
                    clear h1 h2
                    clear cP0 cP1 cP2 ltP
                    obtain ⟨hb73, CA⟩ := after_new hb73
                    replace CA := Lib.hid CA
                    replace CP := Lib.hid (CP.out.after hb73)
                    replace FP := Lib.hid (FP.out.after hb73)
                    replace FA := Lib.hid (FA.out.after hb73)
                    replace HB := Lib.hid (HB.out.trans (hb73.mono HB.out.size))
                    clear hb73
                    have d_P_B : w71.heap.size < w73.heap.size := CP.out.lt
                    have d_A_B : w72.heap.size < w73.heap.size := CA.out.lt
                    have g_B : w.heap.size ≤ w73.heap.size := by have := HB.out.size; omega
                    obtain ⟨cP0, cP1, cP2⟩ := CP.out.cells3
                    have ltP := CP.out.lt
                    obtain ⟨cA0, cA1, cA2⟩ := CA.out.cells3
                    have ltA := CA.out.lt
                    go_wp2_with fail
                    refine (Nearest_c _ _ fP 1001 (FP.out.alloc _) (by omega) (by omega)).mono ?_
                    rw [E4.out]
                    rintro e w74 ⟨v, rfl, hv, hb74⟩
                    have hv : IsF _ v (F0) := hv
                    obtain ⟨va, vb, rfl, h1, h2⟩ := hv
                    obtain ⟨pQ, mQ, rfl, _, _⟩ := h1.shape
                    obtain ⟨qQ, nQ, rfl, _, _⟩ := h2.shape
                    have FQ := Lib.hid (IsF.at_ h1 h2)
                    clear h1 h2
                    clear cP0 cP1 cP2 ltP cA0 cA1 cA2 ltA
                    obtain ⟨hb74, CB⟩ := after_new hb74
                    replace CB := Lib.hid CB
                    replace CP := Lib.hid (CP.out.after hb74)
                    replace CA := Lib.hid (CA.out.after hb74)
                    replace FP := Lib.hid (FP.out.after hb74)
                    replace FA := Lib.hid (FA.out.after hb74)
                    replace FB := Lib.hid (FB.out.after hb74)
                    replace HB := Lib.hid (HB.out.trans (hb74.mono HB.out.size))
                    clear hb74
                    clear FQ
                    obtain ⟨cP0, cP1, cP2⟩ := CP.out.cells3
                    have ltP := CP.out.lt
                    obtain ⟨cA0, cA1, cA2⟩ := CA.out.cells3
                    have ltA := CA.out.lt
                    obtain ⟨cB0, cB1, cB2⟩ := CB.out.cells3
                    have ltB := CB.out.lt
                    go_wp2_with fail
                    refine (small_c _ (-1) 2 (by omega) (by omega) (by omega) (by omega)).mono ?_
                    rw [E5.out]
                    rintro e w75 ⟨v, rfl, hv, hb75⟩
                    have hv : IsF _ v (fm12) := hv
                    obtain ⟨va, vb, rfl, h1, h2⟩ := hv
                    obtain ⟨pS, mS, rfl, _, _⟩ := h1.shape
                    obtain ⟨qS, nS, rfl, _, _⟩ := h2.shape
                    have FS := Lib.hid (IsF.at_ h1 h2)
                    clear h1 h2
                    clear cP0 cP1 cP2 ltP cA0 cA1 cA2 ltA cB0 cB1 cB2 ltB
                    replace CP := Lib.hid (CP.out.after hb75)
                    replace CA := Lib.hid (CA.out.after hb75)
                    replace CB := Lib.hid (CB.out.after hb75)
                    replace FP := Lib.hid (FP.out.after hb75)
                    replace FA := Lib.hid (FA.out.after hb75)
                    replace FB := Lib.hid (FB.out.after hb75)
                    replace HB := Lib.hid (HB.out.trans (hb75.mono HB.out.size))
                    clear hb75
                    obtain ⟨cP0, cP1, cP2⟩ := CP.out.cells3
                    have ltP := CP.out.lt
                    obtain ⟨cA0, cA1, cA2⟩ := CA.out.cells3
                    have ltA := CA.out.lt
                    obtain ⟨cB0, cB1, cB2⟩ := CB.out.cells3
                    have ltB := CB.out.lt
                    go_wp2_with fail
                    refine (Nearest_c _ _ fm12 1 FS.out (by omega) (by omega)).mono ?_
                    rw [E6.out]
                    rintro e w76 ⟨v, rfl, hv, hb76⟩
                    have hv : IsF _ v (fm11) := hv
                    obtain ⟨va, vb, rfl, h1, h2⟩ := hv
                    obtain ⟨pC, mC, rfl, _, _⟩ := h1.shape
                    obtain ⟨qC, nC, rfl, _, _⟩ := h2.shape
                    have FC := Lib.hid (IsF.at_ h1 h2)
                    clear h1 h2
                    clear cP0 cP1 cP2 ltP cA0 cA1 cA2 ltA cB0 cB1 cB2 ltB
                    replace CP := Lib.hid (CP.out.after hb76)
                    replace CA := Lib.hid (CA.out.after hb76)
                    replace CB := Lib.hid (CB.out.after hb76)
                    replace FP := Lib.hid (FP.out.after hb76)
                    replace FA := Lib.hid (FA.out.after hb76)
                    replace FB := Lib.hid (FB.out.after hb76)
                    replace FS := Lib.hid (FS.out.after hb76)
                    replace HB := Lib.hid (HB.out.trans (hb76.mono HB.out.size))
                    clear hb76
                    clear FS
                    have d_P_C : w71.heap.size < w76.heap.size := CP.out.lt
                    have d_A_C : w72.heap.size < w76.heap.size := CA.out.lt
                    have d_B_C : w73.heap.size < w76.heap.size := CB.out.lt
                    have g_C : w.heap.size ≤ w76.heap.size := by have := HB.out.size; omega
                    obtain ⟨cP0, cP1, cP2⟩ := CP.out.cells3
                    have ltP := CP.out.lt
                    obtain ⟨cA0, cA1, cA2⟩ := CA.out.cells3
                    have ltA := CA.out.lt
                    obtain ⟨cB0, cB1, cB2⟩ := CB.out.cells3
                    have ltB := CB.out.lt
                    go_wp2_with fail
                    refine (small_c _ 31 10 (by omega) (by omega) (by omega) (by omega)).mono ?_
                    rw [E7.out]
                    rintro e w77 ⟨v, rfl, hv, hb77⟩
                    have hv : IsF _ v (f31) := hv
                    obtain ⟨va, vb, rfl, h1, h2⟩ := hv
                    obtain ⟨pS, mS, rfl, _, _⟩ := h1.shape
                    obtain ⟨qS, nS, rfl, _, _⟩ := h2.shape
                    have FS := Lib.hid (IsF.at_ h1 h2)
                    clear h1 h2
                    clear cP0 cP1 cP2 ltP cA0 cA1 cA2 ltA cB0 cB1 cB2 ltB
                    obtain ⟨hb77, CC⟩ := after_new hb77
                    replace CC := Lib.hid CC
                    replace CP := Lib.hid (CP.out.after hb77)
                    replace CA := Lib.hid (CA.out.after hb77)
                    replace CB := Lib.hid (CB.out.after hb77)
                    replace FP := Lib.hid (FP.out.after hb77)
                    replace FA := Lib.hid (FA.out.after hb77)
                    replace FB := Lib.hid (FB.out.after hb77)
                    replace FC := Lib.hid (FC.out.after hb77)
                    replace HB := Lib.hid (HB.out.trans (hb77.mono HB.out.size))
                    clear hb77
                    obtain ⟨cP0, cP1, cP2⟩ := CP.out.cells3
                    have ltP := CP.out.lt
                    obtain ⟨cA0, cA1, cA2⟩ := CA.out.cells3
                    have ltA := CA.out.lt
                    obtain ⟨cB0, cB1, cB2⟩ := CB.out.cells3
                    have ltB := CB.out.lt
                    obtain ⟨cC0, cC1, cC2⟩ := CC.out.cells3
                    have ltC := CC.out.lt
                    go_wp2_with fail
                    refine (small_c _ 22 7 (by omega) (by omega) (by omega) (by omega)).mono ?_
                    rw [E8.out]
                    rintro e w78 ⟨v, rfl, hv, hb78⟩
                    have hv : IsF _ v (f22) := hv
                    obtain ⟨va, vb, rfl, h1, h2⟩ := hv
                    obtain ⟨pT, mT, rfl, _, _⟩ := h1.shape
                    obtain ⟨qT, nT, rfl, _, _⟩ := h2.shape
                    have FT := Lib.hid (IsF.at_ h1 h2)
                    clear h1 h2
                    clear cP0 cP1 cP2 ltP cA0 cA1 cA2 ltA cB0 cB1 cB2 ltB cC0 cC1 cC2 ltC
                    replace CP := Lib.hid (CP.out.after hb78)
                    replace CA := Lib.hid (CA.out.after hb78)
                    replace CB := Lib.hid (CB.out.after hb78)
                    replace CC := Lib.hid (CC.out.after hb78)
                    replace FP := Lib.hid (FP.out.after hb78)
                    replace FA := Lib.hid (FA.out.after hb78)
                    replace FB := Lib.hid (FB.out.after hb78)
                    replace FC := Lib.hid (FC.out.after hb78)
                    replace FS := Lib.hid (FS.out.after hb78)
                    replace HB := Lib.hid (HB.out.trans (hb78.mono HB.out.size))
                    clear hb78
                    obtain ⟨cP0, cP1, cP2⟩ := CP.out.cells3
                    have ltP := CP.out.lt
                    obtain ⟨cA0, cA1, cA2⟩ := CA.out.cells3
                    have ltA := CA.out.lt
                    obtain ⟨cB0, cB1, cB2⟩ := CB.out.cells3
                    have ltB := CB.out.lt
                    obtain ⟨cC0, cC1, cC2⟩ := CC.out.cells3
                    have ltC := CC.out.lt
                    go_wp2_with fail
                    refine (Simplest_c _ _ _ f31 f22 FS.out FT.out).mono ?_
                    rw [E9.out]
                    rintro e w79 ⟨v, rfl, hv, hb79⟩
                    have hv : IsF _ v (f22) := hv
                    obtain ⟨va, vb, rfl, h1, h2⟩ := hv
                    obtain ⟨pX, mX, rfl, _, _⟩ := h1.shape
                    obtain ⟨qX, nX, rfl, _, _⟩ := h2.shape
                    have FX := Lib.hid (IsF.at_ h1 h2)
                    clear h1 h2
                    clear cP0 cP1 cP2 ltP cA0 cA1 cA2 ltA cB0 cB1 cB2 ltB cC0 cC1 cC2 ltC
                    replace CP := Lib.hid (CP.out.after hb79)
                    replace CA := Lib.hid (CA.out.after hb79)
                    replace CB := Lib.hid (CB.out.after hb79)
                    replace CC := Lib.hid (CC.out.after hb79)
                    replace FP := Lib.hid (FP.out.after hb79)
                    replace FA := Lib.hid (FA.out.after hb79)
                    replace FB := Lib.hid (FB.out.after hb79)
                    replace FC := Lib.hid (FC.out.after hb79)
                    replace FS := Lib.hid (FS.out.after hb79)
                    replace FT := Lib.hid (FT.out.after hb79)
                    replace HB := Lib.hid (HB.out.trans (hb79.mono HB.out.size))
                    clear hb79
                    clear FS FT
                    have d_P_X : w71.heap.size < w79.heap.size := CP.out.lt
                    have d_A_X : w72.heap.size < w79.heap.size := CA.out.lt
                    have d_B_X : w73.heap.size < w79.heap.size := CB.out.lt
                    have d_C_X : w76.heap.size < w79.heap.size := CC.out.lt
                    have g_X : w.heap.size ≤ w79.heap.size := by have := HB.out.size; omega
                    obtain ⟨cP0, cP1, cP2⟩ := CP.out.cells3
                    have ltP := CP.out.lt
                    obtain ⟨cA0, cA1, cA2⟩ := CA.out.cells3
                    have ltA := CA.out.lt
                    obtain ⟨cB0, cB1, cB2⟩ := CB.out.cells3
                    have ltB := CB.out.lt
                    obtain ⟨cC0, cC1, cC2⟩ := CC.out.cells3
                    have ltC := CC.out.lt
                    go_upto_region 42 with fail
                    clear cP0 cP1 cP2 ltP cA0 cA1 cA2 ltA cB0 cB1 cB2 ltB cC0 cC1 cC2 ltC
                    obtain ⟨u42, hw⟩ : ∃ W, W = w79.alloc (.cells #[.bool (f22).neg, .slice pX (f22).num.length mX, .slice qX (f22).den.length nX] 25) := ⟨_, rfl⟩
                    obtain ⟨hb2, CX⟩ := after_new (below_same hw)
                    rw [← hw]
                    clear hw
                    replace CX := Lib.hid CX
                    replace FP := Lib.hid (FP.out.after hb2)
                    replace FA := Lib.hid (FA.out.after hb2)
                    replace FB := Lib.hid (FB.out.after hb2)
                    replace FC := Lib.hid (FC.out.after hb2)
                    replace FX := Lib.hid (FX.out.after hb2)
                    replace CP := Lib.hid (CP.out.after hb2)
                    replace CA := Lib.hid (CA.out.after hb2)
                    replace CB := Lib.hid (CB.out.after hb2)
                    replace CC := Lib.hid (CC.out.after hb2)
                    replace HB := Lib.hid (HB.out.trans (hb2.mono HB.out.size))
                    clear hb2
                    refine wp_region_gj (J := GJ _ (fun _ => SK (fun κ => match κ with | 0 => .eq (.agg #[.bool (fP).neg, .slice pP (fP).num.length mP, .slice qP (fP).den.length nP]) | 1 => .isF (f3) | 2 => .tup (F0) (2) | 3 => .tup (F0) (2) | 4 => .isF (F0) | 5 => .eq (.int .i64 (2)) | 6 => .eq (.int .i64 2) | _ => .any)) (fun _ _ w => Below u42.heap.size u42 w) _) (by kernel_rfl) ?_ ?_ (GJ.start (below_dr (Below.refl _ _)))
                    · intro listed a w9 i hr hj
                      obtain ⟨hi12, hun, _, _, _⟩ := ready_mem hr
                      have h12 : i ∈ List.range 7 := List.mem_range.2 hi12
                      simp only [List.range, List.range.loop, List.mem_cons, List.not_mem_nil, or_false] at h12
                      obtain ⟨f, rfl, hcm, hf⟩ := hj.opened [284, 285, 286, 283, 287, 288, 12] (by kernel_rfl)
                      replace hcm : Below u42.heap.size u42 w9 := hcm
                      rcases h12 with rfl | rfl | rfl | rfl | rfl | rfl | rfl
                      · obtain ⟨k0, k1, k2⟩ := (CP.out.after hcm).cells3
                        have klt := (CP.out.after hcm).lt
                        refine GJ.op hj (by kernel_rfl) hr rfl [284, 285, 286, 283, 287, 288, 12] (by kernel_rfl) (fun K hK => ?_)
                        simp only [Act.put, List.foldl_cons, List.foldl_nil, List.setIfInBounds_toArray, List.set_cons_zero, List.set_cons_succ] at hK ⊢
                        clear hj hf
                        go_simp
                        exact hK _ _ (fun k v _ _ h => h.keep (Below.refl _ _)) (fun t ht => SK.of (.eq (.agg #[.bool (fP).neg, .slice pP (fP).num.length mP, .slice qP (fP).den.length nP])) rfl rfl) (hcm.trans ((Below.refl _ _).mono hcm.size))
                      · refine GJ.op hj (by kernel_rfl) hr rfl [284, 285, 286, 283, 287, 288, 12] (by kernel_rfl) (fun K hK => ?_)
                        simp only [Act.put, List.foldl_cons, List.foldl_nil, List.setIfInBounds_toArray, List.set_cons_zero, List.set_cons_succ] at hK ⊢
                        clear hj hf
                        go_simp
                        refine (small_c w9 3 1 (by omega) (by omega) (by omega) (by omega)).mono ?_
                        rw [E10.out]
                        rintro e w10 ⟨v10, rfl, hv10, hb10⟩
                        exact hK _ _ (fun k v _ _ h => h.keep hb10) (fun t ht => SK.of (.isF (f3)) rfl hv10) (hcm.trans (hb10.mono hcm.size))
                      · have e1 : f 284 = .agg #[.bool (fP).neg, .slice pP (fP).num.length mP, .slice qP (fP).den.length nP] := hf 0 _ _ rfl rfl (up_dep hr (by kernel_rfl))
                        have s2 : IsF w9 (f 285) (f3) := hf 1 _ _ rfl rfl (up_dep hr (by kernel_rfl))
                        refine GJ.op hj (by kernel_rfl) hr rfl [284, 285, 286, 283, 287, 288, 12] (by kernel_rfl) (fun K hK => ?_)
                        simp only [Act.put, List.foldl_cons, List.foldl_nil, List.setIfInBounds_toArray, List.set_cons_zero, List.set_cons_succ] at hK ⊢
                        clear hj hf
                        rw [e1] at hK ⊢
                        clear e1
                        go_simp
                        refine (Simplest_c w9 _ _ fP f3 (FP.out.after hcm) s2).mono ?_
                        rw [E11.out]
                        rintro e w10 ⟨v10, rfl, hv10, hb10⟩
                        exact hK _ _ (fun k v _ _ h => h.keep hb10) (fun t ht => SK.of (.tup (F0) (2)) rfl ⟨_, rfl, hv10⟩) (hcm.trans (hb10.mono hcm.size))
                      · obtain ⟨u1, e1, s1⟩ : ∃ u, f 286 = .tuple #[u, .int .i64 (2)] ∧ IsF w9 u (F0) := hf 2 _ _ rfl rfl (up_dep hr (by kernel_rfl))
                        refine GJ.op hj (by kernel_rfl) hr rfl [284, 285, 286, 283, 287, 288, 12] (by kernel_rfl) (fun K hK => ?_)
                        simp only [Act.put, List.foldl_cons, List.foldl_nil, List.setIfInBounds_toArray, List.set_cons_zero, List.set_cons_succ] at hK ⊢
                        clear hj hf
                        rw [e1] at hK ⊢
                        clear e1
                        go_simp
                        exact hK _ _ (fun k v _ _ h => h.keep (Below.refl _ _)) (fun t ht => SK.of (.tup (F0) (2)) rfl ⟨_, rfl, s1⟩) (hcm.trans ((Below.refl _ _).mono hcm.size))
                      · obtain ⟨u1, e1, s1⟩ : ∃ u, f 283 = .tuple #[u, .int .i64 (2)] ∧ IsF w9 u (F0) := hf 3 _ _ rfl rfl (up_dep hr (by kernel_rfl))
                        refine GJ.op hj (by kernel_rfl) hr rfl [284, 285, 286, 283, 287, 288, 12] (by kernel_rfl) (fun K hK => ?_)
                        simp only [Act.put, List.foldl_cons, List.foldl_nil, List.setIfInBounds_toArray, List.set_cons_zero, List.set_cons_succ] at hK ⊢
                        clear hj hf
                        rw [e1] at hK ⊢
                        clear e1
                        go_simp
                        exact hK _ _ (fun k v _ _ h => h.keep (Below.refl _ _)) (fun t ht => SK.of (.isF (F0)) rfl s1) (hcm.trans ((Below.refl _ _).mono hcm.size))
                      · obtain ⟨u1, e1, s1⟩ : ∃ u, f 283 = .tuple #[u, .int .i64 (2)] ∧ IsF w9 u (F0) := hf 3 _ _ rfl rfl (up_dep hr (by kernel_rfl))
                        refine GJ.op hj (by kernel_rfl) hr rfl [284, 285, 286, 283, 287, 288, 12] (by kernel_rfl) (fun K hK => ?_)
                        simp only [Act.put, List.foldl_cons, List.foldl_nil, List.setIfInBounds_toArray, List.set_cons_zero, List.set_cons_succ] at hK ⊢
                        clear hj hf
                        rw [e1] at hK ⊢
                        clear e1
                        go_simp
                        exact hK _ _ (fun k v _ _ h => h.keep (Below.refl _ _)) (fun t ht => SK.of (.eq (.int .i64 (2))) rfl rfl) (hcm.trans ((Below.refl _ _).mono hcm.size))
                      · have e1 : f 288 = .int .i64 (2) := hf 5 _ _ rfl rfl (up_dep hr (by kernel_rfl))
                        refine GJ.op hj (by kernel_rfl) hr rfl [284, 285, 286, 283, 287, 288, 12] (by kernel_rfl) (fun K hK => ?_)
                        simp only [Act.put, List.foldl_cons, List.foldl_nil, List.setIfInBounds_toArray, List.set_cons_zero, List.set_cons_succ] at hK ⊢
                        clear hj hf
                        rw [e1] at hK ⊢
                        clear e1
                        go_simp
                        exact hK _ _ (fun k v _ _ h => h.keep (Below.refl _ _)) (fun t ht => SK.of (.eq (.int .i64 2)) rfl rfl) (hcm.trans ((Below.refl _ _).mono hcm.size))
                    · intro listed a w90 hr hj
                      have hu : ∀ k, k < 7 → up listed k := fun k hk => all_up (by kernel_rfl) hj.lsize hr k hk
                      obtain ⟨f, rfl, hcm, hf⟩ := hj.opened [284, 285, 286, 283, 287, 288, 12] (by kernel_rfl)
                      replace hcm : Below u42.heap.size u42 w90 := hcm
                      have eE : f 12 = .int .i64 2 := hf 6 _ _ rfl rfl (hu 6 (by omega))
                      have hbn : Below u42.heap.size u42 w90 := hcm
                      clear hcm hf hj hr hu
                      simp only [List.foldl_cons, List.foldl_nil, List.setIfInBounds_toArray, List.set_cons_zero, List.set_cons_succ]
                      rw [eE]
                      clear eE
                      generalize f 284 = g284
                      generalize f 285 = g285
                      generalize f 286 = g286
                      generalize f 283 = g283
                      generalize f 287 = g287
                      generalize f 288 = g288
                      clear f
                      have d_w90 : u42.heap.size ≤ w90.heap.size := hbn.size
                      replace CP := Lib.hid (CP.out.after hbn)
                      replace CA := Lib.hid (CA.out.after hbn)
                      replace CB := Lib.hid (CB.out.after hbn)
                      replace CC := Lib.hid (CC.out.after hbn)
                      replace CX := Lib.hid (CX.out.after hbn)
                      replace FP := Lib.hid (FP.out.after hbn)
                      replace FA := Lib.hid (FA.out.after hbn)
                      replace FB := Lib.hid (FB.out.after hbn)
                      replace FC := Lib.hid (FC.out.after hbn)
                      replace FX := Lib.hid (FX.out.after hbn)
                      replace HB := Lib.hid (HB.out.trans (hbn.mono HB.out.size))
                      clear hbn
                      clear FP CP
                      obtain ⟨cA0, cA1, cA2⟩ := CA.out.cells3
                      have ltA := CA.out.lt
                      obtain ⟨cB0, cB1, cB2⟩ := CB.out.cells3
                      have ltB := CB.out.lt
                      obtain ⟨cC0, cC1, cC2⟩ := CC.out.cells3
                      have ltC := CC.out.lt
                      obtain ⟨cX0, cX1, cX2⟩ := CX.out.cells3
                      have ltX := CX.out.lt
                      go_wp2_with fail
                      refine (small_c _ (-7) 2 (by omega) (by omega) (by omega) (by omega)).mono ?_
                      rw [E12.out]
                      rintro e w91 ⟨v, rfl, hv, hb91⟩
                      have hv : IsF _ v (f72) := hv
                      obtain ⟨va, vb, rfl, h1, h2⟩ := hv
                      obtain ⟨pS, mS, rfl, _, _⟩ := h1.shape
                      obtain ⟨qS, nS, rfl, _, _⟩ := h2.shape
                      have FS := Lib.hid (IsF.at_ h1 h2)
                      clear h1 h2
                      clear cA0 cA1 cA2 ltA cB0 cB1 cB2 ltB cC0 cC1 cC2 ltC cX0 cX1 cX2 ltX
                      replace CA := Lib.hid (CA.out.after hb91)
                      replace CB := Lib.hid (CB.out.after hb91)
                      replace CC := Lib.hid (CC.out.after hb91)
                      replace CX := Lib.hid (CX.out.after hb91)
                      replace FA := Lib.hid (FA.out.after hb91)
                      replace FB := Lib.hid (FB.out.after hb91)
                      replace FC := Lib.hid (FC.out.after hb91)
                      replace FX := Lib.hid (FX.out.after hb91)
                      replace HB := Lib.hid (HB.out.trans (hb91.mono HB.out.size))
                      clear hb91
                      obtain ⟨cA0, cA1, cA2⟩ := CA.out.cells3
                      have ltA := CA.out.lt
                      obtain ⟨cB0, cB1, cB2⟩ := CB.out.cells3
                      have ltB := CB.out.lt
                      obtain ⟨cC0, cC1, cC2⟩ := CC.out.cells3
                      have ltC := CC.out.lt
                      obtain ⟨cX0, cX1, cX2⟩ := CX.out.cells3
                      have ltX := CX.out.lt
                      go_wp2_with fail
                      refine (small_c _ (-5) 2 (by omega) (by omega) (by omega) (by omega)).mono ?_
                      rw [E13.out]
                      rintro e w92 ⟨v, rfl, hv, hb92⟩
                      have hv : IsF _ v (f52) := hv
                      obtain ⟨va, vb, rfl, h1, h2⟩ := hv
                      obtain ⟨pT, mT, rfl, _, _⟩ := h1.shape
                      obtain ⟨qT, nT, rfl, _, _⟩ := h2.shape
                      have FT := Lib.hid (IsF.at_ h1 h2)
                      clear h1 h2
                      clear cA0 cA1 cA2 ltA cB0 cB1 cB2 ltB cC0 cC1 cC2 ltC cX0 cX1 cX2 ltX
                      replace CA := Lib.hid (CA.out.after hb92)
                      replace CB := Lib.hid (CB.out.after hb92)
                      replace CC := Lib.hid (CC.out.after hb92)
                      replace CX := Lib.hid (CX.out.after hb92)
                      replace FA := Lib.hid (FA.out.after hb92)
                      replace FB := Lib.hid (FB.out.after hb92)
                      replace FC := Lib.hid (FC.out.after hb92)
                      replace FX := Lib.hid (FX.out.after hb92)
                      replace FS := Lib.hid (FS.out.after hb92)
                      replace HB := Lib.hid (HB.out.trans (hb92.mono HB.out.size))
                      clear hb92
                      obtain ⟨cA0, cA1, cA2⟩ := CA.out.cells3
                      have ltA := CA.out.lt
                      obtain ⟨cB0, cB1, cB2⟩ := CB.out.cells3
                      have ltB := CB.out.lt
                      obtain ⟨cC0, cC1, cC2⟩ := CC.out.cells3
                      have ltC := CC.out.lt
                      obtain ⟨cX0, cX1, cX2⟩ := CX.out.cells3
                      have ltX := CX.out.lt
                      go_wp2_with fail
                      refine (Simplest_c _ _ _ f72 f52 FS.out FT.out).mono ?_
                      rw [E14.out]
                      rintro e w93 ⟨v, rfl, hv, hb93⟩
                      have hv : IsF _ v (fm3) := hv
                      obtain ⟨va, vb, rfl, h1, h2⟩ := hv
                      obtain ⟨pY, mY, rfl, _, _⟩ := h1.shape
                      obtain ⟨qY, nY, rfl, _, _⟩ := h2.shape
                      have FY := Lib.hid (IsF.at_ h1 h2)
                      clear h1 h2
                      clear cA0 cA1 cA2 ltA cB0 cB1 cB2 ltB cC0 cC1 cC2 ltC cX0 cX1 cX2 ltX
                      replace CA := Lib.hid (CA.out.after hb93)
                      replace CB := Lib.hid (CB.out.after hb93)
                      replace CC := Lib.hid (CC.out.after hb93)
                      replace CX := Lib.hid (CX.out.after hb93)
                      replace FA := Lib.hid (FA.out.after hb93)
                      replace FB := Lib.hid (FB.out.after hb93)
                      replace FC := Lib.hid (FC.out.after hb93)
                      replace FX := Lib.hid (FX.out.after hb93)
                      replace FS := Lib.hid (FS.out.after hb93)
                      replace FT := Lib.hid (FT.out.after hb93)
                      replace HB := Lib.hid (HB.out.trans (hb93.mono HB.out.size))
                      clear hb93
                      clear FS FT
                      have d_A_Y : w72.heap.size < w93.heap.size := CA.out.lt
                      have d_B_Y : w73.heap.size < w93.heap.size := CB.out.lt
                      have d_C_Y : w76.heap.size < w93.heap.size := CC.out.lt
                      have d_X_Y : w79.heap.size < w93.heap.size := CX.out.lt
                      have g_Y : w.heap.size ≤ w93.heap.size := by have := HB.out.size; omega
                      obtain ⟨cA0, cA1, cA2⟩ := CA.out.cells3
                      have ltA := CA.out.lt
                      obtain ⟨cB0, cB1, cB2⟩ := CB.out.cells3
                      have ltB := CB.out.lt
                      obtain ⟨cC0, cC1, cC2⟩ := CC.out.cells3
                      have ltC := CC.out.lt
                      obtain ⟨cX0, cX1, cX2⟩ := CX.out.cells3
                      have ltX := CX.out.lt
                      go_wp2_with fail
                      refine (Text_c _ _ f22 (FA.out.alloc _)).mono ?_
                      rw [U1.out]
                      rintro e w94 ⟨rfl, hb94⟩
                      clear cA0 cA1 cA2 ltA cB0 cB1 cB2 ltB cC0 cC1 cC2 ltC cX0 cX1 cX2 ltX
                      obtain ⟨hb94, CY⟩ := after_new hb94
                      replace CY := Lib.hid CY
                      replace CA := Lib.hid (CA.out.after hb94)
                      replace CB := Lib.hid (CB.out.after hb94)
                      replace CC := Lib.hid (CC.out.after hb94)
                      replace CX := Lib.hid (CX.out.after hb94)
                      replace FA := Lib.hid (FA.out.after hb94)
                      replace FB := Lib.hid (FB.out.after hb94)
                      replace FC := Lib.hid (FC.out.after hb94)
                      replace FX := Lib.hid (FX.out.after hb94)
                      replace FY := Lib.hid (FY.out.after hb94)
                      replace HB := Lib.hid (HB.out.trans (hb94.mono HB.out.size))
                      clear hb94
                      clear FA CA
                      obtain ⟨cB0, cB1, cB2⟩ := CB.out.cells3
                      have ltB := CB.out.lt
                      obtain ⟨cC0, cC1, cC2⟩ := CC.out.cells3
                      have ltC := CC.out.lt
                      obtain ⟨cX0, cX1, cX2⟩ := CX.out.cells3
                      have ltX := CX.out.lt
                      obtain ⟨cY0, cY1, cY2⟩ := CY.out.cells3
                      have ltY := CY.out.lt
                      go_wp2_with fail
                      refine (Text_c _ _ f35 FB.out).mono ?_
                      rw [U2.out]
                      rintro e w95 ⟨rfl, hb95⟩
                      clear cB0 cB1 cB2 ltB cC0 cC1 cC2 ltC cX0 cX1 cX2 ltX cY0 cY1 cY2 ltY
                      replace CB := Lib.hid (CB.out.after hb95)
                      replace CC := Lib.hid (CC.out.after hb95)
                      replace CX := Lib.hid (CX.out.after hb95)
                      replace CY := Lib.hid (CY.out.after hb95)
                      replace FB := Lib.hid (FB.out.after hb95)
                      replace FC := Lib.hid (FC.out.after hb95)
                      replace FX := Lib.hid (FX.out.after hb95)
                      replace FY := Lib.hid (FY.out.after hb95)
                      replace HB := Lib.hid (HB.out.trans (hb95.mono HB.out.size))
                      clear hb95
                      clear FB CB
                      obtain ⟨cC0, cC1, cC2⟩ := CC.out.cells3
                      have ltC := CC.out.lt
                      obtain ⟨cX0, cX1, cX2⟩ := CX.out.cells3
                      have ltX := CX.out.lt
                      obtain ⟨cY0, cY1, cY2⟩ := CY.out.cells3
                      have ltY := CY.out.lt
                      go_wp2_with fail
                      refine (Text_c _ _ fm11 FC.out).mono ?_
                      rw [U3.out]
                      rintro e w96 ⟨rfl, hb96⟩
                      clear cC0 cC1 cC2 ltC cX0 cX1 cX2 ltX cY0 cY1 cY2 ltY
                      replace CC := Lib.hid (CC.out.after hb96)
                      replace CX := Lib.hid (CX.out.after hb96)
                      replace CY := Lib.hid (CY.out.after hb96)
                      replace FC := Lib.hid (FC.out.after hb96)
                      replace FX := Lib.hid (FX.out.after hb96)
                      replace FY := Lib.hid (FY.out.after hb96)
                      replace HB := Lib.hid (HB.out.trans (hb96.mono HB.out.size))
                      clear hb96
                      clear FC CC
                      obtain ⟨cX0, cX1, cX2⟩ := CX.out.cells3
                      have ltX := CX.out.lt
                      obtain ⟨cY0, cY1, cY2⟩ := CY.out.cells3
                      have ltY := CY.out.lt
                      go_wp2_with fail
                      refine (Text_c _ _ f22 FX.out).mono ?_
                      rw [U1.out]
                      rintro e w97 ⟨rfl, hb97⟩
                      clear cX0 cX1 cX2 ltX cY0 cY1 cY2 ltY
                      replace CX := Lib.hid (CX.out.after hb97)
                      replace CY := Lib.hid (CY.out.after hb97)
                      replace FX := Lib.hid (FX.out.after hb97)
                      replace FY := Lib.hid (FY.out.after hb97)
                      replace HB := Lib.hid (HB.out.trans (hb97.mono HB.out.size))
                      clear hb97
                      clear FX CX
                      obtain ⟨cY0, cY1, cY2⟩ := CY.out.cells3
                      have ltY := CY.out.lt
                      go_wp2_with fail
                      refine (Text_c _ _ fm3 FY.out).mono ?_
                      rw [U4.out]
                      rintro e w98 ⟨rfl, hb98⟩
                      clear cY0 cY1 cY2 ltY
                      replace CY := Lib.hid (CY.out.after hb98)
                      replace FY := Lib.hid (FY.out.after hb98)
                      replace HB := Lib.hid (HB.out.trans (hb98.mono HB.out.size))
                      clear hb98
                      clear FY CY
                      go_wp2_with fail
                      refine (rworks_c _).mono ?_
                      rintro e w99 ⟨rfl, hb99⟩
                      replace HB := Lib.hid (HB.out.trans (hb99.mono HB.out.size))
                      clear hb99
                      go_wp2_with fail
                      go_ret
                      exact ⟨rfl, HB.out⟩
end Go.Proofs.Ytaojdlcailpheaa
