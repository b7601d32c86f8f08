/- The walk of CanaryKnown. -/
import Derived.Test.YtebmegodeglobaaQGr1
import Derived.Test.YtebmegodeglobaaQGr2
import Derived.Test.YtebmegodeglobaaQGr3
import Derived.Test.YtebmegodeglobaaQGr4
import Derived.Test.YtebmegodeglobaaK26
set_option linter.unusedVariables false
namespace Go.Proofs.Ytebmegodeglobaa
open Go.RowKit

/-- The rows of the first table: the results, what Next is to decide, its error. -/
def tabK : List (List Bool × Dec × Int) := [([], ⟨1, [4]⟩, 0), ([true, false], ⟨0, []⟩, 8), ([true, true, true], ⟨2, []⟩, 0), ([true, true, true, false, false], ⟨0, []⟩, 8), ([true, true, true, false], ⟨0, []⟩, 8),
  ([false, true, true, true, true], ⟨2, []⟩, 0), ([false, true, true, false, true], ⟨3, []⟩, 0), ([false, false, false, false, false, false], ⟨0, []⟩, 2)]
theorem tabK_next : ∀ x ∈ tabK, nextF R0 x.1 = (x.2.1, x.2.2) := by
  intro x hx
  unfold tabK at hx
  simp only [List.mem_cons, List.not_mem_nil, or_false] at hx
  rcases hx with rfl | rfl | rfl | rfl | rfl | rfl | rfl | rfl
  · exact kn0
  · exact kn1
  · exact kn2
  · exact kn3
  · exact kn4
  · exact kn5
  · exact kn6
  · exact kn7
/-- The first table lies at b. -/
def TabK (w : World) (b : Nat) : Prop := b < w.heap.size ∧ ∀ (i : Nat) x, tabK[i]? = some x → ∃ v u, w.cell? ⟨b, i * 4, none⟩ = some v ∧ w.cell? ⟨b, i * 4 + 1, none⟩ = some (.int .u8 (x.2.1.kind : Int)) ∧ w.cell? ⟨b, i * 4 + 2, none⟩ = some u ∧
  w.cell? ⟨b, i * 4 + 3, none⟩ = some (.int .i64 x.2.2) ∧ SlB w v x.1 ∧ SlI w u x.2.1.hosts
theorem TabK.after {w w' : World} {b : Nat} (h : TabK w b) (hb : Below w.heap.size w w') : TabK w' b := by
  refine ⟨Nat.lt_of_lt_of_le h.1 hb.size, fun i x hx => ?_⟩
  obtain ⟨v, u, h1, h2, h3, h4, h5, h6⟩ := h.2 i x hx
  exact ⟨v, u, keep_cell hb h1, keep_cell hb h2, keep_cell hb h3, keep_cell hb h4, h5.after hb, h6.after hb⟩
theorem cells4K {w : World} {b : Nat} {x0 x1 x2 x3 : Value} {t : TypeId} (h : Box w b #[x0, x1, x2, x3] t) : w.cell? ⟨b, 0, none⟩ = some x0 ∧ w.cell? ⟨b, 1, none⟩ = some x1 ∧ w.cell? ⟨b, 2, none⟩ = some x2 ∧ w.cell? ⟨b, 3, none⟩ = some x3 := ⟨h.cell 0, h.cell 1, h.cell 2, h.cell 3⟩
theorem TabK.of {w : World} {b b0 b1 b2 b3 b4 b5 b6 b7 : Nat} {tt : TypeId}
    (h : Box w b #[.slice none 0 0, .int .u8 1, .slice (some ⟨b0, 0, none⟩) 1 1, .int .i64 0, .slice (some ⟨b1, 0, none⟩) 2 2, .int .u8 0, .slice none 0 0, .int .i64 8,
      .slice (some ⟨b2, 0, none⟩) 3 3, .int .u8 2, .slice none 0 0, .int .i64 0, .slice (some ⟨b3, 0, none⟩) 5 5, .int .u8 0, .slice none 0 0, .int .i64 8,
      .slice (some ⟨b4, 0, none⟩) 4 4, .int .u8 0, .slice none 0 0, .int .i64 8, .slice (some ⟨b5, 0, none⟩) 5 5, .int .u8 2, .slice none 0 0, .int .i64 0,
      .slice (some ⟨b6, 0, none⟩) 5 5, .int .u8 3, .slice none 0 0, .int .i64 0, .slice (some ⟨b7, 0, none⟩) 6 6, .int .u8 0, .slice none 0 0, .int .i64 2] tt)
    (h0 : Box w b0 #[.int .i64 4] 3) (h1 : Box w b1 #[.bool true, .bool false] 4) (h2 : Box w b2 #[.bool true, .bool true, .bool true] 4) (h3 : Box w b3 #[.bool true, .bool true, .bool true, .bool false, .bool false] 4)
    (h4 : Box w b4 #[.bool true, .bool true, .bool true, .bool false] 4) (h5 : Box w b5 #[.bool false, .bool true, .bool true, .bool true, .bool true] 4) (h6 : Box w b6 #[.bool false, .bool true, .bool true, .bool false, .bool true] 4)
    (h7 : Box w b7 #[.bool false, .bool false, .bool false, .bool false, .bool false, .bool false] 4) : TabK w b := by
  refine ⟨h.lt, fun i x hx => ?_⟩
  have hi : i < 8 := (List.getElem?_eq_some_iff.1 hx).1
  rcases i with _ | _ | _ | _ | _ | _ | _ | _ | i
  · obtain rfl := Option.some.inj hx; exact ⟨_, _, h.cell 0, h.cell 1, h.cell 2, h.cell 3, SlV.nil w, SlI.lit (l := [4]) h0 rfl (fun z hz => by rw [List.mem_singleton] at hz; subst hz; unfold In64; omega) (by decide)⟩
  · obtain rfl := Option.some.inj hx; exact ⟨_, _, h.cell 4, h.cell 5, h.cell 6, h.cell 7, SlB.lit (l := [true, false]) h1 rfl (by decide), SlI.nil w⟩
  · obtain rfl := Option.some.inj hx; exact ⟨_, _, h.cell 8, h.cell 9, h.cell 10, h.cell 11, SlB.lit (l := [true, true, true]) h2 rfl (by decide), SlI.nil w⟩
  · obtain rfl := Option.some.inj hx; exact ⟨_, _, h.cell 12, h.cell 13, h.cell 14, h.cell 15, SlB.lit (l := [true, true, true, false, false]) h3 rfl (by decide), SlI.nil w⟩
  · obtain rfl := Option.some.inj hx; exact ⟨_, _, h.cell 16, h.cell 17, h.cell 18, h.cell 19, SlB.lit (l := [true, true, true, false]) h4 rfl (by decide), SlI.nil w⟩
  · obtain rfl := Option.some.inj hx; exact ⟨_, _, h.cell 20, h.cell 21, h.cell 22, h.cell 23, SlB.lit (l := [false, true, true, true, true]) h5 rfl (by decide), SlI.nil w⟩
  · obtain rfl := Option.some.inj hx; exact ⟨_, _, h.cell 24, h.cell 25, h.cell 26, h.cell 27, SlB.lit (l := [false, true, true, false, true]) h6 rfl (by decide), SlI.nil w⟩
  · obtain rfl := Option.some.inj hx; exact ⟨_, _, h.cell 28, h.cell 29, h.cell 30, h.cell 31, SlB.lit (l := [false, false, false, false, false, false]) h7 rfl (by decide), SlI.nil w⟩
  · omega

set_option maxRecDepth 100000 in
set_option maxHeartbeats 16000000 in
theorem canaryKnown_c (w : World) : Calls Try.prog 3 #[] w fun e w' => e = .returned (.bool true) ∧ Below w.heap.size w w' := by
  obtain ⟨R, hR⟩ : ∃ R, R0 = R := ⟨_, rfl⟩
  have HS := Lib.hid (fun w => hR ▸ sample_c w : ∀ w, Calls Try.prog 4 #[] w (RetR w R))
  have HR0 := Lib.hid hR
  have HB : Hid (Below w.heap.size w w) := Below.refl _ _
  clear hR
  go_enter Try.func3, Try.ntmps3
  go_wp2_with fail
  refine (HS.out _).mono ?_
  rintro e w1 ⟨v1, rfl, hv1, hb1⟩
  have hop := hv1.open
  obtain ⟨p0, p1, p2, p3, p4, p5, k0, k1, k2, k3, k4, k5, rfl, _, _, _, _⟩ := hop
  have HV1 := Lib.hid hv1
  replace HB := Lib.hid (HB.out.trans (hb1.mono HB.out.size))
  clear hv1 hb1
  go_upto_region 2 with fail
  obtain ⟨W1, hW⟩ : ∃ W1, W1 = w1.alloc (.cells #[.slice p0 R.hosts.length k0, .slice p1 R.waves.length k1, .bool R.rate.neg, .slice p2 R.rate.num.length k2, .slice p3 R.rate.den.length k3, .bool R.bound.neg, .slice p4 R.bound.num.length k4, .slice p5 R.bound.den.length k5] 28) := ⟨_, rfl⟩
  have br : Box W1 w1.heap.size #[.slice p0 R.hosts.length k0, .slice p1 R.waves.length k1, .bool R.rate.neg, .slice p2 R.rate.num.length k2, .slice p3 R.rate.den.length k3, .bool R.bound.neg, .slice p4 R.bound.num.length k4, .slice p5 R.bound.den.length k5] 28 := hW ▸ Box.new w1 _ _
  have hb : Below w1.heap.size w1 W1 := hW ▸ held_alloc (Below.refl _ w1)
  have HR := Lib.hid (HV1.out.after hb)
  have BR := Lib.hid br
  replace HB := Lib.hid (HB.out.trans (hb.mono HB.out.size))
  rw [← hW]
  clear hW br hb HV1
  obtain ⟨B, hB⟩ : ∃ B, w1.heap.size = B := ⟨_, rfl⟩
  rw [hB] at BR ⊢
  clear hB
  have hmk6 : ∀ W : World, (Instr.makeSlice 32 (.int .i64 6) (.int .i64 6)).run Try.prog W = .ok (.slice (some ⟨W.heap.size, 0, none⟩) 6 6) (W.alloc (.cells #[.bool false, .bool false, .bool false, .bool false, .bool false, .bool false] 4)) := by
    intro W
    have h := run_make_row' (P := Try.prog) 32 4 (.bool false) 1 Try.underlying32 (by kernel_rfl) rfl .i64 .i64 6 (by omega) (by omega) W
    rw [show madeCells #[Value.bool false] 6 = #[.bool false, .bool false, .bool false, .bool false, .bool false, .bool false] from by kernel_rfl] at h
    exact h
  go_wp2_with fail
  obtain ⟨W2, hW⟩ : ∃ W2, W2 = ((((((((W1.alloc (.cells #[.int .i64 4] 3)).alloc (.cells #[.bool true, .bool false] 4)).alloc (.cells #[.bool true, .bool true, .bool true] 4)).alloc (.cells #[.bool true, .bool true, .bool true, .bool false, .bool false] 4)).alloc (.cells #[.bool true, .bool true, .bool true, .bool false] 4)).alloc (.cells #[.bool false, .bool true, .bool true, .bool true, .bool true] 4)).alloc (.cells #[.bool false, .bool true, .bool true, .bool false, .bool true] 4)).alloc (.cells #[.bool false, .bool false, .bool false, .bool false, .bool false, .bool false] 4)).alloc (.cells #[.slice none 0 0, .int .u8 1, .slice (some ⟨W1.heap.size, 0, none⟩) 1 1, .int .i64 0, .slice (some ⟨W1.heap.size + 1, 0, none⟩) 2 2, .int .u8 0, .slice none 0 0, .int .i64 8, .slice (some ⟨W1.heap.size + 1 + 1, 0, none⟩) 3 3, .int .u8 2, .slice none 0 0, .int .i64 0, .slice (some ⟨W1.heap.size + 1 + 1 + 1, 0, none⟩) 5 5, .int .u8 0, .slice none 0 0, .int .i64 8, .slice (some ⟨W1.heap.size + 1 + 1 + 1 + 1, 0, none⟩) 4 4, .int .u8 0, .slice none 0 0, .int .i64 8, .slice (some ⟨W1.heap.size + 1 + 1 + 1 + 1 + 1, 0, none⟩) 5 5, .int .u8 2, .slice none 0 0, .int .i64 0, .slice (some ⟨W1.heap.size + 1 + 1 + 1 + 1 + 1 + 1, 0, none⟩) 5 5, .int .u8 3, .slice none 0 0, .int .i64 0, .slice (some ⟨W1.heap.size + 1 + 1 + 1 + 1 + 1 + 1 + 1, 0, none⟩) 6 6, .int .u8 0, .slice none 0 0, .int .i64 2] 33) := ⟨_, rfl⟩
  have t0 : Box W2 (W1.heap.size) #[.int .i64 4] 3 := by
    have h9 := (Box.new W1 #[.int .i64 4] 3) |>.alloc (.cells #[.bool true, .bool false] 4) |>.alloc (.cells #[.bool true, .bool true, .bool true] 4) |>.alloc (.cells #[.bool true, .bool true, .bool true, .bool false, .bool false] 4) |>.alloc (.cells #[.bool true, .bool true, .bool true, .bool false] 4) |>.alloc (.cells #[.bool false, .bool true, .bool true, .bool true, .bool true] 4) |>.alloc (.cells #[.bool false, .bool true, .bool true, .bool false, .bool true] 4) |>.alloc (.cells #[.bool false, .bool false, .bool false, .bool false, .bool false, .bool false] 4) |>.alloc (.cells #[.slice none 0 0, .int .u8 1, .slice (some ⟨W1.heap.size, 0, none⟩) 1 1, .int .i64 0, .slice (some ⟨W1.heap.size + 1, 0, none⟩) 2 2, .int .u8 0, .slice none 0 0, .int .i64 8, .slice (some ⟨W1.heap.size + 1 + 1, 0, none⟩) 3 3, .int .u8 2, .slice none 0 0, .int .i64 0, .slice (some ⟨W1.heap.size + 1 + 1 + 1, 0, none⟩) 5 5, .int .u8 0, .slice none 0 0, .int .i64 8, .slice (some ⟨W1.heap.size + 1 + 1 + 1 + 1, 0, none⟩) 4 4, .int .u8 0, .slice none 0 0, .int .i64 8, .slice (some ⟨W1.heap.size + 1 + 1 + 1 + 1 + 1, 0, none⟩) 5 5, .int .u8 2, .slice none 0 0, .int .i64 0, .slice (some ⟨W1.heap.size + 1 + 1 + 1 + 1 + 1 + 1, 0, none⟩) 5 5, .int .u8 3, .slice none 0 0, .int .i64 0, .slice (some ⟨W1.heap.size + 1 + 1 + 1 + 1 + 1 + 1 + 1, 0, none⟩) 6 6, .int .u8 0, .slice none 0 0, .int .i64 2] 33)
    try simp only [World.size_alloc] at h9
    rw [hW]; exact h9
  have t1 : Box W2 (W1.heap.size + 1) #[.bool true, .bool false] 4 := by
    have h9 := (Box.new (W1.alloc (.cells #[.int .i64 4] 3)) #[.bool true, .bool false] 4) |>.alloc (.cells #[.bool true, .bool true, .bool true] 4) |>.alloc (.cells #[.bool true, .bool true, .bool true, .bool false, .bool false] 4) |>.alloc (.cells #[.bool true, .bool true, .bool true, .bool false] 4) |>.alloc (.cells #[.bool false, .bool true, .bool true, .bool true, .bool true] 4) |>.alloc (.cells #[.bool false, .bool true, .bool true, .bool false, .bool true] 4) |>.alloc (.cells #[.bool false, .bool false, .bool false, .bool false, .bool false, .bool false] 4) |>.alloc (.cells #[.slice none 0 0, .int .u8 1, .slice (some ⟨W1.heap.size, 0, none⟩) 1 1, .int .i64 0, .slice (some ⟨W1.heap.size + 1, 0, none⟩) 2 2, .int .u8 0, .slice none 0 0, .int .i64 8, .slice (some ⟨W1.heap.size + 1 + 1, 0, none⟩) 3 3, .int .u8 2, .slice none 0 0, .int .i64 0, .slice (some ⟨W1.heap.size + 1 + 1 + 1, 0, none⟩) 5 5, .int .u8 0, .slice none 0 0, .int .i64 8, .slice (some ⟨W1.heap.size + 1 + 1 + 1 + 1, 0, none⟩) 4 4, .int .u8 0, .slice none 0 0, .int .i64 8, .slice (some ⟨W1.heap.size + 1 + 1 + 1 + 1 + 1, 0, none⟩) 5 5, .int .u8 2, .slice none 0 0, .int .i64 0, .slice (some ⟨W1.heap.size + 1 + 1 + 1 + 1 + 1 + 1, 0, none⟩) 5 5, .int .u8 3, .slice none 0 0, .int .i64 0, .slice (some ⟨W1.heap.size + 1 + 1 + 1 + 1 + 1 + 1 + 1, 0, none⟩) 6 6, .int .u8 0, .slice none 0 0, .int .i64 2] 33)
    try simp only [World.size_alloc] at h9
    rw [hW]; exact h9
  have t2 : Box W2 (W1.heap.size + 1 + 1) #[.bool true, .bool true, .bool true] 4 := by
    have h9 := (Box.new ((W1.alloc (.cells #[.int .i64 4] 3)).alloc (.cells #[.bool true, .bool false] 4)) #[.bool true, .bool true, .bool true] 4) |>.alloc (.cells #[.bool true, .bool true, .bool true, .bool false, .bool false] 4) |>.alloc (.cells #[.bool true, .bool true, .bool true, .bool false] 4) |>.alloc (.cells #[.bool false, .bool true, .bool true, .bool true, .bool true] 4) |>.alloc (.cells #[.bool false, .bool true, .bool true, .bool false, .bool true] 4) |>.alloc (.cells #[.bool false, .bool false, .bool false, .bool false, .bool false, .bool false] 4) |>.alloc (.cells #[.slice none 0 0, .int .u8 1, .slice (some ⟨W1.heap.size, 0, none⟩) 1 1, .int .i64 0, .slice (some ⟨W1.heap.size + 1, 0, none⟩) 2 2, .int .u8 0, .slice none 0 0, .int .i64 8, .slice (some ⟨W1.heap.size + 1 + 1, 0, none⟩) 3 3, .int .u8 2, .slice none 0 0, .int .i64 0, .slice (some ⟨W1.heap.size + 1 + 1 + 1, 0, none⟩) 5 5, .int .u8 0, .slice none 0 0, .int .i64 8, .slice (some ⟨W1.heap.size + 1 + 1 + 1 + 1, 0, none⟩) 4 4, .int .u8 0, .slice none 0 0, .int .i64 8, .slice (some ⟨W1.heap.size + 1 + 1 + 1 + 1 + 1, 0, none⟩) 5 5, .int .u8 2, .slice none 0 0, .int .i64 0, .slice (some ⟨W1.heap.size + 1 + 1 + 1 + 1 + 1 + 1, 0, none⟩) 5 5, .int .u8 3, .slice none 0 0, .int .i64 0, .slice (some ⟨W1.heap.size + 1 + 1 + 1 + 1 + 1 + 1 + 1, 0, none⟩) 6 6, .int .u8 0, .slice none 0 0, .int .i64 2] 33)
    try simp only [World.size_alloc] at h9
    rw [hW]; exact h9
  have t3 : Box W2 (W1.heap.size + 1 + 1 + 1) #[.bool true, .bool true, .bool true, .bool false, .bool false] 4 := by
    have h9 := (Box.new (((W1.alloc (.cells #[.int .i64 4] 3)).alloc (.cells #[.bool true, .bool false] 4)).alloc (.cells #[.bool true, .bool true, .bool true] 4)) #[.bool true, .bool true, .bool true, .bool false, .bool false] 4) |>.alloc (.cells #[.bool true, .bool true, .bool true, .bool false] 4) |>.alloc (.cells #[.bool false, .bool true, .bool true, .bool true, .bool true] 4) |>.alloc (.cells #[.bool false, .bool true, .bool true, .bool false, .bool true] 4) |>.alloc (.cells #[.bool false, .bool false, .bool false, .bool false, .bool false, .bool false] 4) |>.alloc (.cells #[.slice none 0 0, .int .u8 1, .slice (some ⟨W1.heap.size, 0, none⟩) 1 1, .int .i64 0, .slice (some ⟨W1.heap.size + 1, 0, none⟩) 2 2, .int .u8 0, .slice none 0 0, .int .i64 8, .slice (some ⟨W1.heap.size + 1 + 1, 0, none⟩) 3 3, .int .u8 2, .slice none 0 0, .int .i64 0, .slice (some ⟨W1.heap.size + 1 + 1 + 1, 0, none⟩) 5 5, .int .u8 0, .slice none 0 0, .int .i64 8, .slice (some ⟨W1.heap.size + 1 + 1 + 1 + 1, 0, none⟩) 4 4, .int .u8 0, .slice none 0 0, .int .i64 8, .slice (some ⟨W1.heap.size + 1 + 1 + 1 + 1 + 1, 0, none⟩) 5 5, .int .u8 2, .slice none 0 0, .int .i64 0, .slice (some ⟨W1.heap.size + 1 + 1 + 1 + 1 + 1 + 1, 0, none⟩) 5 5, .int .u8 3, .slice none 0 0, .int .i64 0, .slice (some ⟨W1.heap.size + 1 + 1 + 1 + 1 + 1 + 1 + 1, 0, none⟩) 6 6, .int .u8 0, .slice none 0 0, .int .i64 2] 33)
    try simp only [World.size_alloc] at h9
    rw [hW]; exact h9
  have t4 : Box W2 (W1.heap.size + 1 + 1 + 1 + 1) #[.bool true, .bool true, .bool true, .bool false] 4 := by
    have h9 := (Box.new ((((W1.alloc (.cells #[.int .i64 4] 3)).alloc (.cells #[.bool true, .bool false] 4)).alloc (.cells #[.bool true, .bool true, .bool true] 4)).alloc (.cells #[.bool true, .bool true, .bool true, .bool false, .bool false] 4)) #[.bool true, .bool true, .bool true, .bool false] 4) |>.alloc (.cells #[.bool false, .bool true, .bool true, .bool true, .bool true] 4) |>.alloc (.cells #[.bool false, .bool true, .bool true, .bool false, .bool true] 4) |>.alloc (.cells #[.bool false, .bool false, .bool false, .bool false, .bool false, .bool false] 4) |>.alloc (.cells #[.slice none 0 0, .int .u8 1, .slice (some ⟨W1.heap.size, 0, none⟩) 1 1, .int .i64 0, .slice (some ⟨W1.heap.size + 1, 0, none⟩) 2 2, .int .u8 0, .slice none 0 0, .int .i64 8, .slice (some ⟨W1.heap.size + 1 + 1, 0, none⟩) 3 3, .int .u8 2, .slice none 0 0, .int .i64 0, .slice (some ⟨W1.heap.size + 1 + 1 + 1, 0, none⟩) 5 5, .int .u8 0, .slice none 0 0, .int .i64 8, .slice (some ⟨W1.heap.size + 1 + 1 + 1 + 1, 0, none⟩) 4 4, .int .u8 0, .slice none 0 0, .int .i64 8, .slice (some ⟨W1.heap.size + 1 + 1 + 1 + 1 + 1, 0, none⟩) 5 5, .int .u8 2, .slice none 0 0, .int .i64 0, .slice (some ⟨W1.heap.size + 1 + 1 + 1 + 1 + 1 + 1, 0, none⟩) 5 5, .int .u8 3, .slice none 0 0, .int .i64 0, .slice (some ⟨W1.heap.size + 1 + 1 + 1 + 1 + 1 + 1 + 1, 0, none⟩) 6 6, .int .u8 0, .slice none 0 0, .int .i64 2] 33)
    try simp only [World.size_alloc] at h9
    rw [hW]; exact h9
  have t5 : Box W2 (W1.heap.size + 1 + 1 + 1 + 1 + 1) #[.bool false, .bool true, .bool true, .bool true, .bool true] 4 := by
    have h9 := (Box.new (((((W1.alloc (.cells #[.int .i64 4] 3)).alloc (.cells #[.bool true, .bool false] 4)).alloc (.cells #[.bool true, .bool true, .bool true] 4)).alloc (.cells #[.bool true, .bool true, .bool true, .bool false, .bool false] 4)).alloc (.cells #[.bool true, .bool true, .bool true, .bool false] 4)) #[.bool false, .bool true, .bool true, .bool true, .bool true] 4) |>.alloc (.cells #[.bool false, .bool true, .bool true, .bool false, .bool true] 4) |>.alloc (.cells #[.bool false, .bool false, .bool false, .bool false, .bool false, .bool false] 4) |>.alloc (.cells #[.slice none 0 0, .int .u8 1, .slice (some ⟨W1.heap.size, 0, none⟩) 1 1, .int .i64 0, .slice (some ⟨W1.heap.size + 1, 0, none⟩) 2 2, .int .u8 0, .slice none 0 0, .int .i64 8, .slice (some ⟨W1.heap.size + 1 + 1, 0, none⟩) 3 3, .int .u8 2, .slice none 0 0, .int .i64 0, .slice (some ⟨W1.heap.size + 1 + 1 + 1, 0, none⟩) 5 5, .int .u8 0, .slice none 0 0, .int .i64 8, .slice (some ⟨W1.heap.size + 1 + 1 + 1 + 1, 0, none⟩) 4 4, .int .u8 0, .slice none 0 0, .int .i64 8, .slice (some ⟨W1.heap.size + 1 + 1 + 1 + 1 + 1, 0, none⟩) 5 5, .int .u8 2, .slice none 0 0, .int .i64 0, .slice (some ⟨W1.heap.size + 1 + 1 + 1 + 1 + 1 + 1, 0, none⟩) 5 5, .int .u8 3, .slice none 0 0, .int .i64 0, .slice (some ⟨W1.heap.size + 1 + 1 + 1 + 1 + 1 + 1 + 1, 0, none⟩) 6 6, .int .u8 0, .slice none 0 0, .int .i64 2] 33)
    try simp only [World.size_alloc] at h9
    rw [hW]; exact h9
  have t6 : Box W2 (W1.heap.size + 1 + 1 + 1 + 1 + 1 + 1) #[.bool false, .bool true, .bool true, .bool false, .bool true] 4 := by
    have h9 := (Box.new ((((((W1.alloc (.cells #[.int .i64 4] 3)).alloc (.cells #[.bool true, .bool false] 4)).alloc (.cells #[.bool true, .bool true, .bool true] 4)).alloc (.cells #[.bool true, .bool true, .bool true, .bool false, .bool false] 4)).alloc (.cells #[.bool true, .bool true, .bool true, .bool false] 4)).alloc (.cells #[.bool false, .bool true, .bool true, .bool true, .bool true] 4)) #[.bool false, .bool true, .bool true, .bool false, .bool true] 4) |>.alloc (.cells #[.bool false, .bool false, .bool false, .bool false, .bool false, .bool false] 4) |>.alloc (.cells #[.slice none 0 0, .int .u8 1, .slice (some ⟨W1.heap.size, 0, none⟩) 1 1, .int .i64 0, .slice (some ⟨W1.heap.size + 1, 0, none⟩) 2 2, .int .u8 0, .slice none 0 0, .int .i64 8, .slice (some ⟨W1.heap.size + 1 + 1, 0, none⟩) 3 3, .int .u8 2, .slice none 0 0, .int .i64 0, .slice (some ⟨W1.heap.size + 1 + 1 + 1, 0, none⟩) 5 5, .int .u8 0, .slice none 0 0, .int .i64 8, .slice (some ⟨W1.heap.size + 1 + 1 + 1 + 1, 0, none⟩) 4 4, .int .u8 0, .slice none 0 0, .int .i64 8, .slice (some ⟨W1.heap.size + 1 + 1 + 1 + 1 + 1, 0, none⟩) 5 5, .int .u8 2, .slice none 0 0, .int .i64 0, .slice (some ⟨W1.heap.size + 1 + 1 + 1 + 1 + 1 + 1, 0, none⟩) 5 5, .int .u8 3, .slice none 0 0, .int .i64 0, .slice (some ⟨W1.heap.size + 1 + 1 + 1 + 1 + 1 + 1 + 1, 0, none⟩) 6 6, .int .u8 0, .slice none 0 0, .int .i64 2] 33)
    try simp only [World.size_alloc] at h9
    rw [hW]; exact h9
  have t7 : Box W2 (W1.heap.size + 1 + 1 + 1 + 1 + 1 + 1 + 1) #[.bool false, .bool false, .bool false, .bool false, .bool false, .bool false] 4 := by
    have h9 := (Box.new (((((((W1.alloc (.cells #[.int .i64 4] 3)).alloc (.cells #[.bool true, .bool false] 4)).alloc (.cells #[.bool true, .bool true, .bool true] 4)).alloc (.cells #[.bool true, .bool true, .bool true, .bool false, .bool false] 4)).alloc (.cells #[.bool true, .bool true, .bool true, .bool false] 4)).alloc (.cells #[.bool false, .bool true, .bool true, .bool true, .bool true] 4)).alloc (.cells #[.bool false, .bool true, .bool true, .bool false, .bool true] 4)) #[.bool false, .bool false, .bool false, .bool false, .bool false, .bool false] 4) |>.alloc (.cells #[.slice none 0 0, .int .u8 1, .slice (some ⟨W1.heap.size, 0, none⟩) 1 1, .int .i64 0, .slice (some ⟨W1.heap.size + 1, 0, none⟩) 2 2, .int .u8 0, .slice none 0 0, .int .i64 8, .slice (some ⟨W1.heap.size + 1 + 1, 0, none⟩) 3 3, .int .u8 2, .slice none 0 0, .int .i64 0, .slice (some ⟨W1.heap.size + 1 + 1 + 1, 0, none⟩) 5 5, .int .u8 0, .slice none 0 0, .int .i64 8, .slice (some ⟨W1.heap.size + 1 + 1 + 1 + 1, 0, none⟩) 4 4, .int .u8 0, .slice none 0 0, .int .i64 8, .slice (some ⟨W1.heap.size + 1 + 1 + 1 + 1 + 1, 0, none⟩) 5 5, .int .u8 2, .slice none 0 0, .int .i64 0, .slice (some ⟨W1.heap.size + 1 + 1 + 1 + 1 + 1 + 1, 0, none⟩) 5 5, .int .u8 3, .slice none 0 0, .int .i64 0, .slice (some ⟨W1.heap.size + 1 + 1 + 1 + 1 + 1 + 1 + 1, 0, none⟩) 6 6, .int .u8 0, .slice none 0 0, .int .i64 2] 33)
    try simp only [World.size_alloc] at h9
    rw [hW]; exact h9
  have t8 : Box W2 (W1.heap.size + 1 + 1 + 1 + 1 + 1 + 1 + 1 + 1) #[.slice none 0 0, .int .u8 1, .slice (some ⟨W1.heap.size, 0, none⟩) 1 1, .int .i64 0, .slice (some ⟨W1.heap.size + 1, 0, none⟩) 2 2, .int .u8 0, .slice none 0 0, .int .i64 8, .slice (some ⟨W1.heap.size + 1 + 1, 0, none⟩) 3 3, .int .u8 2, .slice none 0 0, .int .i64 0, .slice (some ⟨W1.heap.size + 1 + 1 + 1, 0, none⟩) 5 5, .int .u8 0, .slice none 0 0, .int .i64 8, .slice (some ⟨W1.heap.size + 1 + 1 + 1 + 1, 0, none⟩) 4 4, .int .u8 0, .slice none 0 0, .int .i64 8, .slice (some ⟨W1.heap.size + 1 + 1 + 1 + 1 + 1, 0, none⟩) 5 5, .int .u8 2, .slice none 0 0, .int .i64 0, .slice (some ⟨W1.heap.size + 1 + 1 + 1 + 1 + 1 + 1, 0, none⟩) 5 5, .int .u8 3, .slice none 0 0, .int .i64 0, .slice (some ⟨W1.heap.size + 1 + 1 + 1 + 1 + 1 + 1 + 1, 0, none⟩) 6 6, .int .u8 0, .slice none 0 0, .int .i64 2] 33 := by
    have h9 := Box.new ((((((((W1.alloc (.cells #[.int .i64 4] 3)).alloc (.cells #[.bool true, .bool false] 4)).alloc (.cells #[.bool true, .bool true, .bool true] 4)).alloc (.cells #[.bool true, .bool true, .bool true, .bool false, .bool false] 4)).alloc (.cells #[.bool true, .bool true, .bool true, .bool false] 4)).alloc (.cells #[.bool false, .bool true, .bool true, .bool true, .bool true] 4)).alloc (.cells #[.bool false, .bool true, .bool true, .bool false, .bool true] 4)).alloc (.cells #[.bool false, .bool false, .bool false, .bool false, .bool false, .bool false] 4)) #[.slice none 0 0, .int .u8 1, .slice (some ⟨W1.heap.size, 0, none⟩) 1 1, .int .i64 0, .slice (some ⟨W1.heap.size + 1, 0, none⟩) 2 2, .int .u8 0, .slice none 0 0, .int .i64 8, .slice (some ⟨W1.heap.size + 1 + 1, 0, none⟩) 3 3, .int .u8 2, .slice none 0 0, .int .i64 0, .slice (some ⟨W1.heap.size + 1 + 1 + 1, 0, none⟩) 5 5, .int .u8 0, .slice none 0 0, .int .i64 8, .slice (some ⟨W1.heap.size + 1 + 1 + 1 + 1, 0, none⟩) 4 4, .int .u8 0, .slice none 0 0, .int .i64 8, .slice (some ⟨W1.heap.size + 1 + 1 + 1 + 1 + 1, 0, none⟩) 5 5, .int .u8 2, .slice none 0 0, .int .i64 0, .slice (some ⟨W1.heap.size + 1 + 1 + 1 + 1 + 1 + 1, 0, none⟩) 5 5, .int .u8 3, .slice none 0 0, .int .i64 0, .slice (some ⟨W1.heap.size + 1 + 1 + 1 + 1 + 1 + 1 + 1, 0, none⟩) 6 6, .int .u8 0, .slice none 0 0, .int .i64 2] 33
    try simp only [World.size_alloc] at h9
    rw [hW]; exact h9
  have hb : Below W1.heap.size W1 W2 := by rw [hW]; exact held_alloc (held_alloc (held_alloc (held_alloc (held_alloc (held_alloc (held_alloc (held_alloc (held_alloc (Below.refl _ _)))))))))
  have HT : Hid (TabK W2 (W1.heap.size + 1 + 1 + 1 + 1 + 1 + 1 + 1 + 1)) := TabK.of t8 t0 t1 t2 t3 t4 t5 t6 t7
  replace HR := Lib.hid (HR.out.after hb)
  replace BR := Lib.hid (BR.out.after hb)
  replace HB := Lib.hid (HB.out.trans (hb.mono HB.out.size))
  rw [← hW]
  clear hW t0 t1 t2 t3 t4 t5 t6 t7 t8 hb hmk6
  obtain ⟨TB, hTB⟩ : ∃ TB, W1.heap.size + 1 + 1 + 1 + 1 + 1 + 1 + 1 + 1 = TB := ⟨_, rfl⟩
  rw [hTB] at HT ⊢
  clear hTB
  go_loopg [54] 8 (fun g t54 wx => ∃ i : Nat, i ≤ 8 ∧ g = 8 - i ∧ t54 = .int .i64 (i : Int) ∧ Hid (Below W2.heap.size W2 wx))
  case atStart => exact ⟨0, by omega, rfl, rfl, Lib.hid (Below.refl _ _)⟩
  case round =>
    obtain ⟨i, hi, rfl, rfl, hbx⟩ := hrel
    by_cases hlt : i < 8
    · have hlt' : (i : Int) < 8 := Int.ofNat_lt.2 hlt
      obtain ⟨x, hx⟩ : ∃ x, tabK[i]? = some x := ⟨tabK[i]'hlt, List.getElem?_eq_getElem hlt⟩
      have hnx := tabK_next x (List.mem_of_getElem? hx)
      obtain ⟨htb, hrow⟩ := HT.out.after hbx.out
      obtain ⟨v, u, q0, q1, q2, q3, q4, q5⟩ := hrow i x hx
      obtain ⟨fl, d, er⟩ := x
      dsimp only at hnx q1 q3 q4 q5
      rw [HR0.out] at hnx
      obtain ⟨pa, ca, rfl, _, _, _⟩ := q4.shape
      obtain ⟨pb, cb, rfl, _, _, _⟩ := q5.shape
      have HNX := Lib.hid hnx
      have Q4 := Lib.hid q4
      have Q5 := Lib.hid q5
      have HRX := Lib.hid (HR.out.after hbx.out)
      have BRX := Lib.hid (BR.out.after hbx.out)
      clear hrow hx hnx q4 q5
      go_upto_region 5 with fail
      obtain ⟨W3, hW⟩ : ∃ W3, W3 = wr.alloc (.cells #[.slice pa fl.length ca, .int .u8 (d.kind : Int), .slice pb d.hosts.length cb, .int .i64 er] 33) := ⟨_, rfl⟩
      have bx : Box W3 wr.heap.size #[.slice pa fl.length ca, .int .u8 (d.kind : Int), .slice pb d.hosts.length cb, .int .i64 er] 33 := hW ▸ Box.new wr _ _
      have hb : Below wr.heap.size wr W3 := hW ▸ held_alloc (Below.refl _ wr)
      rw [← hW]
      replace HRX := Lib.hid (HRX.out.after hb)
      replace BRX := Lib.hid (BRX.out.after hb)
      replace Q4 := Lib.hid (Q4.out.after hb)
      replace Q5 := Lib.hid (Q5.out.after hb)
      have HBX := Lib.hid (hbx.out.trans (hb.mono hbx.out.size))
      have BX := Lib.hid bx
      clear hW q0 q1 q2 q3 bx hb hbx
      obtain ⟨E, hE⟩ : ∃ E, wr.heap.size = E := ⟨_, rfl⟩
      rw [hE] at BX ⊢
      clear hE
      obtain ⟨c0, c1, c2, c3, c4, c5, c6, c7⟩ := BRX.out.cells8
      obtain ⟨y0, y1, y2, y3⟩ := cells4K BX.out
      go_wp2_with fail
      refine (Next_c _ _ _ R fl HRX.out Q4.out).mono ?_
      rw [HNX.out]
      rintro e w4 ⟨v4, rfl, hv4, hb4⟩
      have hv4 : SlT w4 v4 d.hosts := hv4
      obtain ⟨a4, g4, rfl⟩ := hv4.shape
      replace BX := Lib.hid (BX.out.after hb4)
      replace Q5 := Lib.hid (Q5.out.after hb4)
      replace HBX := Lib.hid (HBX.out.trans (hb4.mono HBX.out.size))
      have H4 := Lib.hid hv4.1
      clear hv4 hb4 c0 c1 c2 c3 c4 c5 c6 c7 y0 y1 y2 y3
      obtain ⟨y0, y1, y2, y3⟩ := cells4K BX.out
      have lE := BX.out.lt
      go_wp2_with fail
      refine (same32_c _ _ _ d d ⟨_, rfl, H4.out.alloc _⟩ ⟨_, rfl, Q5.out.alloc _⟩).mono ?_
      rintro e w5 ⟨r, rfl, hr, hb5⟩
      obtain rfl : r = true := hr.2 rfl
      have HB5 := Lib.hid (HBX.out.trans ((after_new hb5).1.mono HBX.out.size))
      clear hr hb5
      go_wp2_with fail
      go_roundg (8 - (i + 1))
      case measure => omega
      case rel => exact ⟨i + 1, by omega, rfl, by go_num, HB5.out⟩
    · obtain rfl : i = 8 := by omega
      replace HR := Lib.hid (HR.out.after hbx.out)
      replace BR := Lib.hid (BR.out.after hbx.out)
      replace HB := Lib.hid (HB.out.trans (hbx.out.mono HB.out.size))
      clear HT hbx
      obtain ⟨q, hq⟩ : ∃ q, fr false 1 4 = q := ⟨_, rfl⟩
      have HQ := Lib.hid hq
      have HOF : Hid ((ofF 1 4).1 = q) := by show _ = _; rw [← hq]; exact congrArg Prod.fst (ofF_ok (a := 1) (b := 4) rfl rfl ok14)
      clear hq
      go_wp2_with fail
      refine (of32_c _ 1 4 (by omega) (by omega) (by omega) (by omega)).mono ?_
      rw [HOF.out]
      rintro e w3 ⟨v3, rfl, hv3, hb3⟩
      have hv3 : IsF w3 v3 q := hv3
      obtain ⟨va, vb, rfl, e1, e2⟩ := hv3
      obtain ⟨q1, j1, rfl, _, _⟩ := e1.shape
      obtain ⟨q2, j2, rfl, _, _⟩ := e2.shape
      have FQ4 := Lib.hid (IsF.at_ e1 e2)
      replace HR := Lib.hid (HR.out.after hb3)
      replace BR := Lib.hid (BR.out.after hb3)
      replace HB := Lib.hid (HB.out.trans (hb3.mono HB.out.size))
      clear e1 e2 hb3
      go_upto_region 10 with fail
      obtain ⟨W9, hW⟩ : ∃ W9, W9 = w3.alloc (.cells #[.bool q.neg, .slice q1 q.num.length j1, .slice q2 q.den.length j2] 26) := ⟨_, rfl⟩
      have hb9 : Below w3.heap.size w3 W9 := hW ▸ held_alloc (Below.refl _ w3)
      have BQ := Lib.hid (show Box W9 w3.heap.size #[.bool q.neg, .slice q1 q.num.length j1, .slice q2 q.den.length j2] 26 from hW ▸ Box.new w3 _ _)
      have FQ := Lib.hid (FQ4.out.after hb9)
      replace HR := Lib.hid (HR.out.after hb9)
      replace BR := Lib.hid (BR.out.after hb9)
      replace HB := Lib.hid (HB.out.trans (hb9.mono HB.out.size))
      rw [← hW]
      clear hW hb9 FQ4 HOF
      obtain ⟨A6, hA⟩ : ∃ A6, w3.heap.size = A6 := ⟨_, rfl⟩
      rw [hA] at BQ ⊢
      clear hA
      refine known_r10 _ (by kernel_rfl) BQ FQ ?_
      intro wc y7 y81 y82 y83 y84 y85 y86 y87 y88 y89 y90 y91 y92 y93 y94 y95 y96 y97 y98 y99 y100 y101 y102 y103 y104 y105 y106 y107 y108 y109 y110 y111 y112 y113 y114 y115 y116 y117 y118 y119 y120 y121 y122 y123 y124 y125 y126 y127 y128 y129 y130 y131 y132 y133 y134 y135 y136 y137 y138 y139 y140 y141 y142 y143 y144 ho hb
      obtain ⟨bo, rfl, ho⟩ := ho
      have HO := Lib.hid ho
      have HBO := Lib.hid hb
      clear ho hb
      replace HR := Lib.hid (HR.out.after HBO.out)
      replace BR := Lib.hid (BR.out.after HBO.out)
      replace BQ := Lib.hid (BQ.out.after HBO.out)
      replace FQ := Lib.hid (FQ.out.after HBO.out)
      replace HB := Lib.hid (HB.out.trans (HBO.out.mono HB.out.size))
      have HODB : Hid (∀ R ∈ oddR q, ¬ ValidR R) := by show ∀ _ ∈ _, _; rw [← HQ.out]; exact odd_bad ok_fine
      clear HBO
      go_wp2_with fail
      go_loopg [147] 14 (fun g t wx => ∃ i : Nat, i ≤ 14 ∧ g = 14 - i ∧ t = .int .i64 (i : Int) ∧ Hid (Below wc.heap.size wc wx))
      case atStart => exact ⟨0, by omega, rfl, rfl, Lib.hid (Below.refl _ _)⟩
      case round =>
        obtain ⟨i, hi, rfl, rfl, hbx⟩ := hrel
        by_cases hlt : i < 14
        · have hlt' : (i : Int) < 14 := Int.ofNat_lt.2 hlt
          obtain ⟨hlo, hrow⟩ := HO.out
          obtain ⟨c, hc, hro⟩ := hrow i hlt
          obtain ⟨X, hX⟩ : ∃ X, (oddR q)[i]'hlt = X := ⟨_, rfl⟩
          have HXB : Hid (¬ ValidR X) := by show ¬ _; rw [← hX]; exact HODB.out _ (List.getElem_mem _)
          rw [hX] at hro
          obtain ⟨px0, px1, px2, px3, px4, px5, kx0, kx1, kx2, kx3, kx4, kx5, ex, _, _, _, _⟩ := hro.open
          simp only [Value.agg.injEq, Array.mk.injEq, List.cons.injEq, and_true] at ex
          obtain ⟨x0, x1, x2, x3, x4, x5, x6, x7⟩ := ex
          have y0 : wr.cell? ⟨bo, i * 8, none⟩ = some (.slice px0 X.hosts.length kx0) := by rw [← x0]; exact keep_cell hbx.out (hc 0 (by omega))
          have y1 : wr.cell? ⟨bo, i * 8 + 1, none⟩ = some (.slice px1 X.waves.length kx1) := by rw [← x1]; exact keep_cell hbx.out (hc 1 (by omega))
          have y2 : wr.cell? ⟨bo, i * 8 + 2, none⟩ = some (.bool X.rate.neg) := by rw [← x2]; exact keep_cell hbx.out (hc 2 (by omega))
          have y3 : wr.cell? ⟨bo, i * 8 + 3, none⟩ = some (.slice px2 X.rate.num.length kx2) := by rw [← x3]; exact keep_cell hbx.out (hc 3 (by omega))
          have y4 : wr.cell? ⟨bo, i * 8 + 4, none⟩ = some (.slice px3 X.rate.den.length kx3) := by rw [← x4]; exact keep_cell hbx.out (hc 4 (by omega))
          have y5 : wr.cell? ⟨bo, i * 8 + 5, none⟩ = some (.bool X.bound.neg) := by rw [← x5]; exact keep_cell hbx.out (hc 5 (by omega))
          have y6 : wr.cell? ⟨bo, i * 8 + 6, none⟩ = some (.slice px4 X.bound.num.length kx4) := by rw [← x6]; exact keep_cell hbx.out (hc 6 (by omega))
          have y7 : wr.cell? ⟨bo, i * 8 + 7, none⟩ = some (.slice px5 X.bound.den.length kx5) := by rw [← x7]; exact keep_cell hbx.out (hc 7 (by omega))
          have yl : bo < wr.heap.size := Nat.lt_of_lt_of_le hlo hbx.out.size
          rw [x0, x1, x2, x3, x4, x5, x6, x7] at hro
          have HRX := Lib.hid (hro.after hbx.out)
          clear x0 x1 x2 x3 x4 x5 x6 x7 hc hrow hro hX hlo
          go_upto_region 14 with fail
          obtain ⟨W3, hW⟩ : ∃ W3, W3 = wr.alloc (.cells #[.slice px0 X.hosts.length kx0, .slice px1 X.waves.length kx1, .bool X.rate.neg, .slice px2 X.rate.num.length kx2, .slice px3 X.rate.den.length kx3, .bool X.bound.neg, .slice px4 X.bound.num.length kx4, .slice px5 X.bound.den.length kx5] 28) := ⟨_, rfl⟩
          have hb3 : Below wr.heap.size wr W3 := hW ▸ held_alloc (Below.refl _ wr)
          have BX := Lib.hid (show Box W3 wr.heap.size #[.slice px0 X.hosts.length kx0, .slice px1 X.waves.length kx1, .bool X.rate.neg, .slice px2 X.rate.num.length kx2, .slice px3 X.rate.den.length kx3, .bool X.bound.neg, .slice px4 X.bound.num.length kx4, .slice px5 X.bound.den.length kx5] 28 from hW ▸ Box.new wr _ _)
          replace HRX := Lib.hid (HRX.out.after hb3)
          have HACC := Lib.hid (hbx.out.trans (hb3.mono hbx.out.size))
          rw [← hW]
          clear hW hb3 y0 y1 y2 y3 y4 y5 y6 y7 yl
          obtain ⟨E, hE⟩ : ∃ E, wr.heap.size = E := ⟨_, rfl⟩
          rw [hE] at BX ⊢
          clear hE
          refine known_r14 _ (by kernel_rfl) BX HRX HXB ?_
          intro w14 b14 y151 y152 y153 y154 y155 y156 hbv hb
          have HBR := Lib.hid hb
          replace HRX := Lib.hid (HRX.out.after HBR.out)
          replace BX := Lib.hid (BX.out.after HBR.out)
          replace HACC := Lib.hid (HACC.out.trans (HBR.out.mono HACC.out.size))
          clear HBR
          clear hb hbv
          go_upto_region 15 with fail
          refine known_r15 _ (by kernel_rfl) BX HRX HXB ?_
          intro w15 y12 y157 y158 y159 y160 y161 y162 hb
          have HBR := Lib.hid hb
          replace HRX := Lib.hid (HRX.out.after HBR.out)
          replace BX := Lib.hid (BX.out.after HBR.out)
          replace HACC := Lib.hid (HACC.out.trans (HBR.out.mono HACC.out.size))
          clear HBR
          clear hb
          obtain ⟨c0, c1, c2, c3, c4, c5, c6, c7⟩ := BX.out.cells8
          have lc := BX.out.lt
          go_wp2_with fail
          refine (Allowed_c _ _ X HRX.out).mono ?_
          rw [allowed_bad HXB.out]
          rintro e w16 ⟨v16, rfl, hv, hb⟩
          have hv : SlI w16 v16 [] := hv
          obtain ⟨pa, ca, rfl, _, _, _⟩ := hv.shape
          have HBR := Lib.hid hb
          replace HRX := Lib.hid (HRX.out.after HBR.out)
          replace BX := Lib.hid (BX.out.after HBR.out)
          replace HACC := Lib.hid (HACC.out.trans (HBR.out.mono HACC.out.size))
          clear HBR
          clear hv hb c0 c1 c2 c3 c4 c5 c6 c7 lc
          go_upto_region 17 with fail
          refine known_r17 _ (by kernel_rfl) BX HRX HXB ?_
          intro w17 b17 y168 y169 y170 y171 y172 y173 hbv hb
          have HBR := Lib.hid hb
          replace HRX := Lib.hid (HRX.out.after HBR.out)
          replace BX := Lib.hid (BX.out.after HBR.out)
          replace HACC := Lib.hid (HACC.out.trans (HBR.out.mono HACC.out.size))
          clear HBR
          clear hb hbv
          obtain ⟨c0, c1, c2, c3, c4, c5, c6, c7⟩ := BX.out.cells8
          have lc := BX.out.lt
          go_wp2_with fail
          refine (cValid_c _ _ X HRX.out).mono ?_
          rintro e w18 ⟨r, rfl, hr, hb⟩
          obtain rfl : r = false := by
            cases r
            · rfl
            · exact absurd (hr.1 rfl) HXB.out
          have HBR := Lib.hid hb
          replace HRX := Lib.hid (HRX.out.after HBR.out)
          replace HACC := Lib.hid (HACC.out.trans (HBR.out.mono HACC.out.size))
          clear HBR
          clear hr hb c0 c1 c2 c3 c4 c5 c6 c7 lc
          go_wp2_with fail
          go_roundg (14 - (i + 1))
          case measure => omega
          case rel => exact ⟨i + 1, by omega, rfl, by go_num, HACC.out⟩
        obtain rfl : i = 14 := by omega
        have HBR := Lib.hid hbx.out
        replace HR := Lib.hid (HR.out.after HBR.out)
        replace BR := Lib.hid (BR.out.after HBR.out)
        replace BQ := Lib.hid (BQ.out.after HBR.out)
        replace FQ := Lib.hid (FQ.out.after HBR.out)
        replace HB := Lib.hid (HB.out.trans (HBR.out.mono HB.out.size))
        clear HBR
        clear hbx HO HODB
        go_upto_region 21 with fail
        refine known_r21 _ (by kernel_rfl) BR HR (Lib.hid (show runF R (List.replicate 4 false) = ([], 2) from by rw [← HR0.out]; exact kr4)) ?_
        intro w21 y18 y193 y194 y195 y196 y197 y198 hb
        have HBR := Lib.hid hb
        replace HR := Lib.hid (HR.out.after HBR.out)
        replace BR := Lib.hid (BR.out.after HBR.out)
        replace BQ := Lib.hid (BQ.out.after HBR.out)
        replace FQ := Lib.hid (FQ.out.after HBR.out)
        replace HB := Lib.hid (HB.out.trans (HBR.out.mono HB.out.size))
        clear HBR
        clear hb
        go_upto_region 22 with fail
        refine known_r22 _ (by kernel_rfl) BR HR (Lib.hid (show runF R (List.replicate 6 false) = ([], 2) from by rw [← HR0.out]; exact kr6)) ?_
        intro w22 y20 y199 y200 y201 y202 y203 y204 hb
        have HBR := Lib.hid hb
        replace HR := Lib.hid (HR.out.after HBR.out)
        replace BR := Lib.hid (BR.out.after HBR.out)
        replace BQ := Lib.hid (BQ.out.after HBR.out)
        replace FQ := Lib.hid (FQ.out.after HBR.out)
        replace HB := Lib.hid (HB.out.trans (HBR.out.mono HB.out.size))
        clear HBR
        clear hb
        obtain ⟨c0, c1, c2, c3, c4, c5, c6, c7⟩ := BR.out.cells8
        have lc := BR.out.lt
        go_wp2_with fail
        refine (Chance_c _ _ _ R F0 HR.out ⟨_, _, rfl, (sl_f0 _).1, (sl_f0 _).2⟩).mono ?_
        rw [show chanceF R F0 = (F0, 1) from by rw [← HR0.out]; exact kc0]
        rintro e w23 ⟨v23, rfl, hv, hb⟩
        have hv : IsF w23 v23 F0 := hv
        obtain ⟨va, vb, rfl, h1, h2⟩ := hv
        obtain ⟨pz, cz, rfl, _, _⟩ := h1.shape
        obtain ⟨qz, dz, rfl, _, _⟩ := h2.shape
        have HBR := Lib.hid hb
        replace HR := Lib.hid (HR.out.after HBR.out)
        replace BR := Lib.hid (BR.out.after HBR.out)
        replace BQ := Lib.hid (BQ.out.after HBR.out)
        replace FQ := Lib.hid (FQ.out.after HBR.out)
        replace HB := Lib.hid (HB.out.trans (HBR.out.mono HB.out.size))
        clear HBR
        clear hb h1 h2
        clear c0 c1 c2 c3 c4 c5 c6 c7 lc
        go_upto_region 24 with fail
        obtain ⟨W23, hW⟩ : ∃ W23, W23 = w23.alloc (.cells #[.bool (F0 : F).neg, .slice pz (F0 : F).num.length cz, .slice qz (F0 : F).den.length dz] 26) := ⟨_, rfl⟩
        have hb3 : Below w23.heap.size w23 W23 := hW ▸ held_alloc (Below.refl _ w23)
        rw [← hW]
        clear hW
        have HBR := Lib.hid hb3
        replace HR := Lib.hid (HR.out.after HBR.out)
        replace BR := Lib.hid (BR.out.after HBR.out)
        replace BQ := Lib.hid (BQ.out.after HBR.out)
        replace FQ := Lib.hid (FQ.out.after HBR.out)
        replace HB := Lib.hid (HB.out.trans (HBR.out.mono HB.out.size))
        clear HBR
        clear hb3
        refine known_r24 _ (by kernel_rfl) BR HR (Lib.hid (show chanceF R (fr false 3 2) = (F0, 2) from by rw [← HR0.out]; exact kc32)) ?_
        intro w24 b24 y211 y212 y213 y214 y215 y216 hbv hb
        have HBR := Lib.hid hb
        replace HR := Lib.hid (HR.out.after HBR.out)
        replace BR := Lib.hid (BR.out.after HBR.out)
        replace BQ := Lib.hid (BQ.out.after HBR.out)
        replace FQ := Lib.hid (FQ.out.after HBR.out)
        replace HB := Lib.hid (HB.out.trans (HBR.out.mono HB.out.size))
        clear HBR
        clear hb hbv
        go_upto_region 25 with fail
        refine known_r25 _ (by kernel_rfl) BR HR (Lib.hid (show chanceF R (fr false 1 1001) = (F0, 2) from by rw [← HR0.out]; exact kcfine ok_fine)) ?_
        intro w25 b25 y217 y218 y219 y220 y221 y222 hbv hb
        have HBR := Lib.hid hb
        replace BQ := Lib.hid (BQ.out.after HBR.out)
        replace FQ := Lib.hid (FQ.out.after HBR.out)
        replace HB := Lib.hid (HB.out.trans (HBR.out.mono HB.out.size))
        clear HBR
        clear hb hbv
        clear HR BR
        go_upto_region 28 with fail
        refine known_r28 _ (by kernel_rfl) BQ FQ ?_
        intro w28 bw28 y241 y242 y243 y244 y245 hbv VA0 hb
        have HBR := Lib.hid hb
        replace BQ := Lib.hid (BQ.out.after HBR.out)
        replace FQ := Lib.hid (FQ.out.after HBR.out)
        replace HB := Lib.hid (HB.out.trans (HBR.out.mono HB.out.size))
        clear HBR
        clear hb hbv
        have VA : Hid (VarRo w28 bw28 RA) := by show VarRo _ _ _; rw [← HQ.out] at VA0; exact VA0
        clear VA0
        obtain ⟨pa0, pa1, pa2, pa3, pa4, pa5, ka0, ka1, ka2, ka3, ka4, ka5, h8, h9⟩ := VA.out
        have BA := Lib.hid h8
        have HA := Lib.hid h9
        clear h8 h9 VA
        obtain ⟨c0, c1, c2, c3, c4, c5, c6, c7⟩ := BA.out.cells8
        have lc := BA.out.lt
        go_wp2_with fail
        refine (Allowed_c _ _ RA HA.out).mono ?_
        rw [al_RA]
        rintro e w29 ⟨v, rfl, hv, hb⟩
        have hv : SlI w29 v [-1, -1] := hv
        obtain ⟨pSA, cSA, rfl, _, _, _⟩ := hv.shape
        have SA := Lib.hid hv
        have HBR := Lib.hid hb
        replace BA := Lib.hid (BA.out.after HBR.out)
        replace HA := Lib.hid (HA.out.after HBR.out)
        replace BQ := Lib.hid (BQ.out.after HBR.out)
        replace FQ := Lib.hid (FQ.out.after HBR.out)
        replace HB := Lib.hid (HB.out.trans (HBR.out.mono HB.out.size))
        clear HBR
        clear hv hb
        clear c0 c1 c2 c3 c4 c5 c6 c7 lc
        go_upto_region 30 with fail
        refine known_r30 _ (by kernel_rfl) BA HA (Lib.hid chance_RA) ?_
        intro w30 bw30 y251 y252 y253 y254 y255 y256 hbv VX hb
        have HBR := Lib.hid hb
        replace BQ := Lib.hid (BQ.out.after HBR.out)
        replace FQ := Lib.hid (FQ.out.after HBR.out)
        replace SA := Lib.hid (SA.out.after HBR.out)
        replace HB := Lib.hid (HB.out.trans (HBR.out.mono HB.out.size))
        clear HBR
        clear hb hbv
        obtain ⟨vx1, vx2, h8, h1, h2⟩ := VX
        obtain ⟨pX1, cX1, rfl, _, _⟩ := h1.shape
        obtain ⟨pX2, cX2, rfl, _, _⟩ := h2.shape
        have BVX := Lib.hid h8
        have HVX := Lib.hid (IsF.at_ h1 h2)
        clear h8 h1 h2 BA HA
        go_upto_region 31 with fail
        refine known_r31 _ (by kernel_rfl) BQ FQ ?_
        intro w31 bw31 y257 y258 y259 y260 y261 hbv VN0 hb
        have HB31 : Hid (w.heap.size ≤ bw31) := Nat.le_trans HB.out.size hbv
        have HBR := Lib.hid hb
        replace BVX := Lib.hid (BVX.out.after HBR.out)
        replace HVX := Lib.hid (HVX.out.after HBR.out)
        replace SA := Lib.hid (SA.out.after HBR.out)
        replace HB := Lib.hid (HB.out.trans (HBR.out.mono HB.out.size))
        clear HBR
        clear hb hbv
        have VN : Hid (VarRo w31 bw31 RN) := by show VarRo _ _ _; rw [← HQ.out] at VN0; exact VN0
        clear VN0
        obtain ⟨pn0, pn1, pn2, pn3, pn4, pn5, kn0, kn1, kn2, kn3, kn4, kn5, h8, h9⟩ := VN.out
        have BN := Lib.hid h8
        have HN := Lib.hid h9
        clear h8 h9 VN
        obtain ⟨c0, c1, c2, c3, c4, c5, c6, c7⟩ := BN.out.cells8
        have lc := BN.out.lt
        go_wp2_with fail
        refine (Allowed_c _ _ RN HN.out).mono ?_
        rw [al_RN]
        rintro e w32 ⟨v, rfl, hv, hb⟩
        have hv : SlI w32 v [1, 2] := hv
        obtain ⟨pSB, cSB, rfl, _, _, _⟩ := hv.shape
        have SB := Lib.hid hv
        have HBR := Lib.hid hb
        replace BN := Lib.hid (BN.out.after HBR.out)
        replace HN := Lib.hid (HN.out.after HBR.out)
        replace BVX := Lib.hid (BVX.out.after HBR.out)
        replace HVX := Lib.hid (HVX.out.after HBR.out)
        replace SA := Lib.hid (SA.out.after HBR.out)
        replace HB := Lib.hid (HB.out.trans (HBR.out.mono HB.out.size))
        clear HBR
        clear hv hb
        clear c0 c1 c2 c3 c4 c5 c6 c7 lc
        go_upto_region 33 with fail
        refine known_r33 _ (by kernel_rfl) BN HN (Lib.hid chance_RN) ?_
        intro w33 bw33 y267 y268 y269 y270 y271 y272 hbv VY hb
        have HBR := Lib.hid hb
        replace BN := Lib.hid (BN.out.after HBR.out)
        replace HN := Lib.hid (HN.out.after HBR.out)
        replace BVX := Lib.hid (BVX.out.after HBR.out)
        replace HVX := Lib.hid (HVX.out.after HBR.out)
        replace SA := Lib.hid (SA.out.after HBR.out)
        replace SB := Lib.hid (SB.out.after HBR.out)
        replace HB := Lib.hid (HB.out.trans (HBR.out.mono HB.out.size))
        clear HBR
        clear hb hbv
        obtain ⟨vy1, vy2, h8, h1, h2⟩ := VY
        obtain ⟨pY1, cY1, rfl, _, _⟩ := h1.shape
        obtain ⟨pY2, cY2, rfl, _, _⟩ := h2.shape
        have BVY := Lib.hid h8
        have HVY := Lib.hid (IsF.at_ h1 h2)
        clear h8 h1 h2
        go_wp2_with fail
        refine (of32_c _ 0 1 (by omega) (by omega) (by omega) (by omega)).mono ?_
        rw [of_01]
        rintro e w34 ⟨v, rfl, hv, hb⟩
        have hv : IsF w34 v (fr false 0 1) := hv
        obtain ⟨va, vb, rfl, h1, h2⟩ := hv
        obtain ⟨pz, cz, rfl, _, _⟩ := h1.shape
        obtain ⟨qz, dz, rfl, _, _⟩ := h2.shape
        have HBR := Lib.hid hb
        replace BN := Lib.hid (BN.out.after HBR.out)
        replace HN := Lib.hid (HN.out.after HBR.out)
        replace BVX := Lib.hid (BVX.out.after HBR.out)
        replace HVX := Lib.hid (HVX.out.after HBR.out)
        replace BVY := Lib.hid (BVY.out.after HBR.out)
        replace HVY := Lib.hid (HVY.out.after HBR.out)
        replace SA := Lib.hid (SA.out.after HBR.out)
        replace SB := Lib.hid (SB.out.after HBR.out)
        replace HB := Lib.hid (HB.out.trans (HBR.out.mono HB.out.size))
        clear HBR
        clear hb
        obtain ⟨c0, c1, c2, c3, c4, c5, c6, c7⟩ := BN.out.cells8
        have lc := BN.out.lt
        have f2 := BN.out.frozen 2
        have f3 := BN.out.frozen 3
        have f4 := BN.out.frozen 4
        go_upto_region 35 with fail
        obtain ⟨W34, hW⟩ : ∃ W34, W34 = ((w34.setCell ⟨bw31, 2, none⟩ (.bool (fr false 0 1).neg)).setCell ⟨bw31, 3, none⟩ (.slice pz (fr false 0 1).num.length cz)).setCell ⟨bw31, 4, none⟩ (.slice qz (fr false 0 1).den.length dz) := ⟨_, rfl⟩
        have hfx : Fx (fun g => g = bw31) w34 W34 := hW ▸ rate_fx _ _ _ _ _
        have BNZ : Hid (Box W34 bw31 #[.slice pn0 RN.hosts.length kn0, .slice pn1 RN.waves.length kn1, .bool (fr false 0 1).neg, .slice pz (fr false 0 1).num.length cz, .slice qz (fr false 0 1).den.length dz, .bool RN.bound.neg, .slice pn4 RN.bound.num.length kn4, .slice pn5 RN.bound.den.length kn5] 28) := hW ▸ rate_box BN.out _ _ _
        have hd := dull_var BN.out
        have hne1 : bw30 ≠ bw31 := fun e => by have h := BVX.out; rw [e] at h; exact box_two h BN.out (by decide)
        have hne2 : bw33 ≠ bw31 := fun e => by have h := BVY.out; rw [e] at h; exact box_two h BN.out (by decide)
        obtain ⟨vh, vw, ta, tb, tc, td, ex, i1, i2, i3, i4, i5, i6⟩ := HN.out
        simp only [Value.agg.injEq, Array.mk.injEq, List.cons.injEq, and_true] at ex
        obtain ⟨x0, x1, _, x3, x4, _, x6, x7⟩ := ex
        subst x0 x1 x3 x4 x6 x7
        have HNZ : Hid (IsR W34 (.agg #[.slice pn0 RN.hosts.length kn0, .slice pn1 RN.waves.length kn1, .bool (fr false 0 1).neg, .slice pz (fr false 0 1).num.length cz, .slice qz (fr false 0 1).den.length dz, .bool RN.bound.neg, .slice pn4 RN.bound.num.length kn4, .slice pn5 RN.bound.den.length kn5]) RZ) := ⟨_, _, _, _, _, _, rfl, i1.fx hfx hd, i2.fx hfx hd, h1.fx hfx hd.1, h2.fx hfx hd.1, i5.fx hfx hd.1, i6.fx hfx hd.1⟩
        replace BVX := Lib.hid (BVX.out.fx hfx hne1)
        replace HVX := Lib.hid (HVX.out.fx hfx hd)
        replace BVY := Lib.hid (BVY.out.fx hfx hne2)
        replace HVY := Lib.hid (HVY.out.fx hfx hd)
        replace SA := Lib.hid (SA.out.fx hfx hd)
        replace SB := Lib.hid (SB.out.fx hfx hd)
        replace HB := Lib.hid (HB.out.trans (hfx.toBelow HB.out.size (fun b e => e ▸ HB31.out)))
        rw [← hW]
        clear hW hfx hd hne1 hne2 i1 i2 i3 i4 i5 i6 h1 h2 f2 f3 f4 BN HN c0 c1 c2 c3 c4 c5 c6 c7 lc
        have BN := BNZ
        have HN := HNZ
        clear BNZ HNZ
        obtain ⟨c0, c1, c2, c3, c4, c5, c6, c7⟩ := BN.out.cells8
        have lc := BN.out.lt
        go_wp2_with fail
        refine (Allowed_c _ _ RZ HN.out).mono ?_
        rw [al_RZ]
        rintro e w35 ⟨v, rfl, hv, hb⟩
        have hv : SlI w35 v [0, 0] := hv
        obtain ⟨pSC, cSC, rfl, _, _, _⟩ := hv.shape
        have SC := Lib.hid hv
        have HBR := Lib.hid hb
        replace BVX := Lib.hid (BVX.out.after HBR.out)
        replace HVX := Lib.hid (HVX.out.after HBR.out)
        replace BVY := Lib.hid (BVY.out.after HBR.out)
        replace HVY := Lib.hid (HVY.out.after HBR.out)
        replace SA := Lib.hid (SA.out.after HBR.out)
        replace SB := Lib.hid (SB.out.after HBR.out)
        replace HB := Lib.hid (HB.out.trans (HBR.out.mono HB.out.size))
        clear HBR
        clear hv hb
        clear c0 c1 c2 c3 c4 c5 c6 c7 lc
        go_upto_region 36 with fail
        refine known_r36 _ (by kernel_rfl) SA SB SC BVX HVX BVY HVY ?_
        intro w36 y280 y281 y282 y283 y284 y285 y286 y287 y288 y289 y290 y291 y292 y293 y294 y295 y296 y297 y298 y299 y300 y301 y302 y303 y304 y305 y306 y307 y308 y309 y310 y311 y312 y313 y314 y315 y316 y317 y318 y319 y320 y321 y322 y323 y324 y325 hb
        have HBR := Lib.hid hb
        replace HB := Lib.hid (HB.out.trans (HBR.out.mono HB.out.size))
        clear HBR
        clear hb
        go_wp2_with fail
        go_ret
        exact ⟨rfl, HB.out⟩
end Go.Proofs.Ytebmegodeglobaa
