/- Walks of package ratio: closest.
   Plain: what Nearest returns. No program in sight.
   Regions that draw their order, by an invariant: one step for each operation, whatever came before it. -/
import Derived.Test.YtaojdlcailpheaaK10
import Derived.Test.YtaojdlcailpheaaK09
import Derived.OrdersIn
import Derived.Laws.World
import Derived.Below
import Derived.Test.YtaojdlcailpheaaProg
set_option linter.unusedVariables false
namespace Go.Proofs.Ytaojdlcailpheaa
open Go.RowKit

/-- The size of a difference. -/
def dif (m n : Nat) : Nat := if m < n then n - m else m - n
theorem dif_lt {m n : Nat} (h : m < n) : dif m n = n - m := by unfold dif; rw [if_pos h]
theorem dif_ge {m n : Nat} (h : ¬ m < n) : dif m n = m - n := by unfold dif; rw [if_neg h]
theorem dif_len {m n k : Nat} (h1 : (limbs m).length ≤ k) (h2 : (limbs n).length ≤ k) : (limbs (dif m n)).length ≤ k := by
  unfold dif
  split
  · exact Nat.le_trans (limbs_len_mono (Nat.sub_le _ _)) h2
  · exact Nat.le_trans (limbs_len_mono (Nat.sub_le _ _)) h1
/-- A function that returns two numbers. -/
def RetNN (w : World) (n m : Nat) (e : Ending) (w' : World) : Prop := ∃ v1 v2, e = .returned (.tuple #[v1, v2]) ∧ Sl w' v1 (limbs n) ∧ Sl w' v2 (limbs m) ∧ Below w.heap.size w w'

set_option maxRecDepth 100000 in
set_option maxHeartbeats 2000000 in
theorem far_c (w : World) (X : Nat) (s t : Bool) (va vb u : Value) (a b c d : Nat) (hx : Box w X #[.bool s, va, vb] 25) (h1 : Sl w va (limbs a)) (h2 : Sl w vb (limbs b)) (k : IsF w u (fr t c d))
    (la : (limbs a).length ≤ 1000) (lb : (limbs b).length ≤ 1000) (lc : (limbs c).length ≤ 1000) (ld : (limbs d).length ≤ 1000) :
    Calls Try.prog 110 #[u, .pointer (some ⟨X, 0, none⟩)] w (RetNN w (dif (a * d) (c * b)) d) := by
  obtain ⟨vc, vd, rfl, h3, h4⟩ := k
  simp only [fr] at h3 h4
  obtain ⟨p0, k0, rfl, _, _⟩ := h1.shape
  obtain ⟨p1, k1, rfl, _, _⟩ := h2.shape
  obtain ⟨p2, k2, rfl, _, _⟩ := h3.shape
  obtain ⟨p3, k3, rfl, _, _⟩ := h4.shape
  obtain ⟨W0, hW⟩ : ∃ W0, W0 = w.alloc (.cells #[.bool t, .slice p2 (limbs c).length k2, .slice p3 (limbs d).length k3] 25) := ⟨_, rfl⟩
  have hb0 : Below w.heap.size w W0 := hW ▸ held_alloc (Below.refl _ w)
  have by' : Box W0 w.heap.size #[.bool t, .slice p2 (limbs c).length k2, .slice p3 (limbs d).length k3] 25 := hW ▸ Box.new w _ _
  have bx := hx.after hb0
  have HXlt := hx.lt
  have HXlt0 := bx.lt
  have HYlt := by'.lt
  have H1 := Lib.hid (h1.after hb0)
  have H2 := Lib.hid (h2.after hb0)
  have H3 := Lib.hid (h3.after hb0)
  have H4 := Lib.hid (h4.after hb0)
  have HB0 := Lib.hid hb0
  have BX := Lib.hid bx
  have BY := Lib.hid by'
  have m1 : (limbs (a * d)).length ≤ 2000 := Nat.le_trans (limbs_mul_len a d) (by omega)
  have m2 : (limbs (c * b)).length ≤ 2000 := Nat.le_trans (limbs_mul_len c b) (by omega)
  have la' : (limbs a).length ≤ 1000000 := by omega
  have lb' : (limbs b).length ≤ 1000000 := by omega
  have lc' : (limbs c).length ≤ 1000000 := by omega
  have ld' : (limbs d).length ≤ 1000000 := by omega
  obtain ⟨c0, c1, c2⟩ := bx.cells3
  obtain ⟨d0, d1, d2⟩ := by'.cells3
  have D1 : Hid (Sl W0.drew (.slice p0 (limbs a).length k0) (limbs a)) := H1.out.after (below_dr (Below.refl _ _))
  have D4 : Hid (Sl W0.drew (.slice p3 (limbs d).length k3) (limbs d)) := H4.out.after (below_dr (Below.refl _ _))
  have mkS : Hid (∀ w', Below W0.heap.size W0 w' → w'.cell? ⟨X, 1, none⟩ = some (.slice p0 (limbs a).length k0) ∧ w'.cell? ⟨w.heap.size, 2, none⟩ = some (.slice p3 (limbs d).length k3) ∧ w'.cell? ⟨w.heap.size, 1, none⟩ = some (.slice p2 (limbs c).length k2) ∧ w'.cell? ⟨X, 2, none⟩ = some (.slice p1 (limbs b).length k1)) := fun w' hw => ⟨keep_cell hw c1, keep_cell hw d2, keep_cell hw d1, keep_cell hw c2⟩
  clear h1 h2 h3 h4 hx bx by' hb0
  show Calls _ _ #[.agg #[.bool t, .slice p2 (limbs c).length k2, .slice p3 (limbs d).length k3], _] w _
  go_enter Try.func110, Try.ntmps110
  go_upto_region 1 with fail
  rw [← hW]
  clear hW
  go_region_held3 (fun w' => w'.cell? ⟨X, 1, none⟩ = some (.slice p0 (limbs a).length k0) ∧ w'.cell? ⟨w.heap.size, 2, none⟩ = some (.slice p3 (limbs d).length k3) ∧ w'.cell? ⟨w.heap.size, 1, none⟩ = some (.slice p2 (limbs c).length k2) ∧ w'.cell? ⟨X, 2, none⟩ = some (.slice p1 (limbs b).length k1))
    (first | (refine mkS.out _ ?_; (repeat (first | with_reducible exact hk2 | with_reducible exact hk1 | with_reducible exact Below.refl _ _ | with_reducible refine below_dr ?_)); done))
    (first
     | (go_at_call 68; ((with_reducible refine (times_n W0.drew (.slice p0 (limbs a).length k0) (.slice p3 (limbs d).length k3) a d D1.out D4.out la' ld').mono ?_); rintro e w1 ⟨v1, rfl, hv1, hb1⟩; have hk1 : Below W0.heap.size W0 w1 := below_of_drew hb1))
     | (go_at_call 68; ((with_reducible refine (times_n w1 (.slice p2 (limbs c).length k2) (.slice p1 (limbs b).length k1) c b (H3.out.after hk1) (H2.out.after hk1) lc' lb').mono ?_); rintro e w2 ⟨v2, rfl, hv2, hb2⟩; have hk2 : Below W0.heap.size W0 w2 := hk1.trans (hb2.mono hk1.size)))
     | (fail))
  have A1 := Lib.hid (hv1.after hb2)
  have A2 := Lib.hid hv2
  have G4 := Lib.hid (H4.out.after hk2)
  have HB2 := Lib.hid (HB0.out.trans (hk2.mono HB0.out.size))
  have y2 := (mkS.out _ hk2).2.1
  clear hv1 hv2 hb1 hb2 hk1 hk2 mkS D1 D4 c0 c1 c2 d0 d1 d2 H1 H2 H3 H4 BX BY HB0 HXlt HXlt0
  obtain ⟨M, hM⟩ : ∃ M, a * d = M := ⟨_, rfl⟩
  obtain ⟨N, hN⟩ : ∃ N, c * b = N := ⟨_, rfl⟩
  have HMN : Hid (dif (a * d) (c * b) = dif M N) := by show _ = _; rw [hM, hN]
  rw [hM] at A1 m1
  rw [hN] at A2 m2
  clear hM hN
  go_wp2_with fail
  refine (compare_c w2 v1 v2 _ _ A1.out A2.out).mono ?_
  rintro e w' ⟨r, rfl, hr, nk, rfl⟩
  obtain ⟨w3, hw3⟩ : ∃ w3, w3 = w2.drewN nk := ⟨_, rfl⟩
  have hb3 : Below w2.heap.size w2 w3 := hw3 ▸ below_drewN w2 nk w2.heap.size
  replace A1 := Lib.hid (A1.out.after hb3)
  replace A2 := Lib.hid (A2.out.after hb3)
  replace G4 := Lib.hid (G4.out.after hb3)
  replace HB2 := Lib.hid (HB2.out.trans (hb3.mono HB2.out.size))
  have z2 := keep_cell hb3 y2
  rw [← hw3]
  have hrlt := hr.lt
  have mkS : Hid (∀ w', Below w3.heap.size w3 w' → w'.cell? ⟨w.heap.size, 2, none⟩ = some (.slice p3 (limbs d).length k3)) := fun w' hw => keep_cell hw z2
  have hlt3 := World.block_lt_of_cell? w3 _ z2
  simp only at hlt3
  clear hw3 hb3 y2 hr
  have E1 : Hid (Sl w3.drew v1 (limbs M)) := A1.out.after (below_dr (Below.refl _ _))
  have E2 : Hid (Sl w3.drew v2 (limbs N)) := A2.out.after (below_dr (Below.refl _ _))
  have mm1 : (limbs M).length ≤ 1000000 := by omega
  have mm2 : (limbs N).length ≤ 1000000 := by omega
  by_cases hlt : M < N
  · have hr0 : r < 0 := hrlt.2 hlt
    have hd : Hid (dif M N = N - M) := dif_lt hlt
    have hle : M ≤ N := Nat.le_of_lt hlt
    clear hrlt hlt
    go_upto_region 4 with fail
    go_region_held3 (fun w' => w'.cell? ⟨w.heap.size, 2, none⟩ = some (.slice p3 (limbs d).length k3))
      (first | (refine mkS.out _ ?_; (repeat (first | with_reducible exact hk4 | with_reducible exact Below.refl _ _ | with_reducible refine below_dr ?_)); done))
      (first
       | (go_at_call 87; ((with_reducible refine (minus_n w3.drew v2 v1 N M E2.out E1.out hle mm2).mono ?_); rintro e w4 ⟨v4, rfl, hv4, hb4⟩; have hk4 : Below w3.heap.size w3 w4 := below_of_drew hb4))
       | (fail))
    have V4 := Lib.hid hv4
    have G5 := Lib.hid (G4.out.after hk4)
    have HB5 := Lib.hid (HB2.out.trans (hk4.mono HB2.out.size))
    clear hv4 hb4 hk4 mkS
    go_wp2_with fail
    go_ret2
    rw [HMN.out, hd.out]
    exact ⟨_, _, rfl, V4.out, G5.out, HB5.out⟩
  · have hr0 : 0 ≤ r := by
      rcases Int.lt_or_le r 0 with h | h
      · exact absurd (hrlt.1 h) hlt
      · exact h
    have hd : Hid (dif M N = M - N) := dif_ge hlt
    have hle : N ≤ M := Nat.le_of_not_lt hlt
    clear hrlt hlt
    go_upto_region 4 with fail
    go_region_held3 (fun w' => w'.cell? ⟨w.heap.size, 2, none⟩ = some (.slice p3 (limbs d).length k3))
      (first | (refine mkS.out _ ?_; (repeat (first | with_reducible exact hk4 | with_reducible exact Below.refl _ _ | with_reducible refine below_dr ?_)); done))
      (first
       | (go_at_call 87; ((with_reducible refine (minus_n w3.drew v1 v2 M N E1.out E2.out hle mm1).mono ?_); rintro e w4 ⟨v4, rfl, hv4, hb4⟩; have hk4 : Below w3.heap.size w3 w4 := below_of_drew hb4))
       | (fail))
    have V4 := Lib.hid hv4
    have G5 := Lib.hid (G4.out.after hk4)
    have HB5 := Lib.hid (HB2.out.trans (hk4.mono HB2.out.size))
    clear hv4 hb4 hk4 mkS
    go_wp2_with fail
    go_ret2
    rw [HMN.out, hd.out]
    exact ⟨_, _, rfl, V4.out, G5.out, HB5.out⟩

/-- Which of two fractions is closer. -/
def closeF (a b : Nat) (s t : Bool) (c d m n : Nat) : Prop := dif (a * d) (c * b) * n < dif (a * n) (m * b) * d ∨ dif (a * d) (c * b) * n = dif (a * n) (m * b) * d ∧ ordN s c d t m n < 0
instance (a b : Nat) (s t : Bool) (c d m n : Nat) : Decidable (closeF a b s t c d m n) := by unfold closeF; infer_instance
/-- The closer one of two fractions. -/
def pickF (a b : Nat) (s t : Bool) (c d m n : Nat) : F := if closeF a b s t c d m n then fr s c d else fr t m n
theorem pickF_yes {a b : Nat} {s t : Bool} {c d m n : Nat} (h : closeF a b s t c d m n) : pickF a b s t c d m n = fr s c d := by unfold pickF; rw [if_pos h]
theorem pickF_no {a b : Nat} {s t : Bool} {c d m n : Nat} (h : ¬ closeF a b s t c d m n) : pickF a b s t c d m n = fr t m n := by unfold pickF; rw [if_neg h]
/-- Four structs of one kind that a function lays at its start. -/
theorem start4r (w : World) (A B C D : Array Value) (t : TypeId) : ∃ W0, W0 = (((w.alloc (.cells A t)).alloc (.cells B t)).alloc (.cells C t)).alloc (.cells D t) ∧
    Box W0 w.heap.size A t ∧ Box W0 (w.heap.size + 1) B t ∧ Box W0 (w.heap.size + 2) C t ∧ Box W0 (w.heap.size + 3) D t ∧ Below w.heap.size w W0 := by
  obtain ⟨W1, hW, h1, h2, h3, _, h4⟩ := start3 w A B C t
  refine ⟨_, rfl, ?_, ?_, ?_, ?_, ?_⟩
  · rw [← hW]; exact h1.alloc _
  · rw [← hW]; exact h2.alloc _
  · rw [← hW]; exact h3.alloc _
  · have := Box.new (((w.alloc (.cells A t)).alloc (.cells B t)).alloc (.cells C t)) D t
    simpa using this
  · rw [← hW]; exact held_alloc h4

set_option maxRecDepth 100000 in
set_option maxHeartbeats 2000000 in
theorem closest_c (w : World) (vx vy vz : Value) (q s t : Bool) (a b c d m n : Nat) (hx : IsF w vx (fr q a b)) (hy : IsF w vy (fr s c d)) (hz : IsF w vz (fr t m n))
    (la : (limbs a).length ≤ 200) (lb : (limbs b).length ≤ 200) (lc : (limbs c).length ≤ 200) (ld : (limbs d).length ≤ 200) (lm : (limbs m).length ≤ 200) (ln : (limbs n).length ≤ 200) :
    Calls Try.prog 89 #[vx, vy, vz] w (RetF1 w (pickF a b s t c d m n)) := by
  obtain ⟨va, vb, rfl, h1, h2⟩ := hx
  have HY := hy
  have HZ := hz
  obtain ⟨vc, vd, rfl, h3, h4⟩ := hy
  obtain ⟨vm, vn, rfl, h5, h6⟩ := hz
  simp only [fr] at h1 h2 h3 h4 h5 h6
  obtain ⟨p2, k2, rfl, _, _⟩ := h3.shape
  obtain ⟨p3, k3, rfl, _, _⟩ := h4.shape
  obtain ⟨p4, k4, rfl, _, _⟩ := h5.shape
  obtain ⟨p5, k5, rfl, _, _⟩ := h6.shape
  obtain ⟨W0, hW, bx, by', bz, br, hb0⟩ := start4r w #[.bool q, va, vb] #[.bool s, .slice p2 (limbs c).length k2, .slice p3 (limbs d).length k3] #[.bool t, .slice p4 (limbs m).length k4, .slice p5 (limbs n).length k5] #[.bool false, .slice none 0 0, .slice none 0 0] 25
  have H1 := Lib.hid (h1.after hb0)
  have H2 := Lib.hid (h2.after hb0)
  replace HY : Hid (IsF W0 (.agg #[.bool s, .slice p2 (limbs c).length k2, .slice p3 (limbs d).length k3]) (fr s c d)) := HY.after hb0
  replace HZ : Hid (IsF W0 (.agg #[.bool t, .slice p4 (limbs m).length k4, .slice p5 (limbs n).length k5]) (fr t m n)) := HZ.after hb0
  have BX := Lib.hid bx
  have BY := Lib.hid by'
  have BZ := Lib.hid bz
  have BR := Lib.hid br
  have HB0 := Lib.hid hb0
  obtain ⟨c0, c1, c2⟩ := by'.cells3
  have hly := by'.lt
  clear h1 h2 h3 h4 h5 h6 bx by' bz br hb0
  show Calls _ _ #[.agg #[.bool q, va, vb], .agg #[.bool s, .slice p2 (limbs c).length k2, .slice p3 (limbs d).length k3], .agg #[.bool t, .slice p4 (limbs m).length k4, .slice p5 (limbs n).length k5]] w _
  have e1 : (limbs (a * d)).length ≤ 400 := Nat.le_trans (limbs_mul_len a d) (by omega)
  have e2 : (limbs (c * b)).length ≤ 400 := Nat.le_trans (limbs_mul_len c b) (by omega)
  have e3 : (limbs (a * n)).length ≤ 400 := Nat.le_trans (limbs_mul_len a n) (by omega)
  have e4 : (limbs (m * b)).length ≤ 400 := Nat.le_trans (limbs_mul_len m b) (by omega)
  have e5 := dif_len e1 e2
  have e6 := dif_len e3 e4
  go_enter Try.func89, Try.ntmps89
  go_upto_region 1 with fail
  rw [← hW]
  clear hW
  go_wp2_with fail
  refine (far_c W0 w.heap.size q s va vb _ a b c d BX.out H1.out H2.out HY.out (by omega) (by omega) (by omega) (by omega)).mono ?_
  rintro e w1 ⟨v1, v2, rfl, hv1, hv2, hb1⟩
  have A1 := Lib.hid hv1
  have A2 := Lib.hid hv2
  replace H1 := Lib.hid (H1.out.after hb1)
  replace H2 := Lib.hid (H2.out.after hb1)
  replace HY := Lib.hid (HY.out.after hb1)
  replace HZ := Lib.hid (HZ.out.after hb1)
  replace BX := Lib.hid (BX.out.after hb1)
  replace BY := Lib.hid (BY.out.after hb1)
  replace BZ := Lib.hid (BZ.out.after hb1)
  replace BR := Lib.hid (BR.out.after hb1)
  replace HB0 := Lib.hid (HB0.out.trans (hb1.mono HB0.out.size))
  clear hv1 hv2 hb1 c0 c1 c2 hly
  obtain ⟨c0, c1, c2⟩ := BZ.out.cells3
  have hlz := BZ.out.lt
  go_wp2_with fail
  refine (far_c w1 w.heap.size q t va vb _ a b m n BX.out H1.out H2.out HZ.out (by omega) (by omega) (by omega) (by omega)).mono ?_
  rintro e w2 ⟨v3, v4, rfl, hv3, hv4, hb2⟩
  replace A1 := Lib.hid (A1.out.after hb2)
  replace A2 := Lib.hid (A2.out.after hb2)
  have A3 := Lib.hid hv3
  have A4 := Lib.hid hv4
  replace HY := Lib.hid (HY.out.after hb2)
  replace HZ := Lib.hid (HZ.out.after hb2)
  replace BY := Lib.hid (BY.out.after hb2)
  replace BZ := Lib.hid (BZ.out.after hb2)
  replace BR := Lib.hid (BR.out.after hb2)
  replace HB0 := Lib.hid (HB0.out.trans (hb2.mono HB0.out.size))
  clear hv3 hv4 hb2 c0 c1 c2 hlz H1 H2 BX
  have hcl : Hid (closeF a b s t c d m n ↔ dif (a * d) (c * b) * n < dif (a * n) (m * b) * d ∨ dif (a * d) (c * b) * n = dif (a * n) (m * b) * d ∧ ordN s c d t m n < 0) := Iff.rfl
  obtain ⟨M, hM⟩ : ∃ M, dif (a * d) (c * b) = M := ⟨_, rfl⟩
  obtain ⟨N, hN⟩ : ∃ N, dif (a * n) (m * b) = N := ⟨_, rfl⟩
  rw [hM] at A1 e5 hcl
  rw [hN] at A3 e6 hcl
  clear hM hN e1 e2 e3 e4
  go_wp2_with fail
  refine (times_n w2 v1 v4 M n A1.out A4.out (by omega) (by omega)).mono ?_
  rintro e w3 ⟨v5, rfl, hv5, hb3⟩
  replace A2 := Lib.hid (A2.out.after hb3)
  replace A3 := Lib.hid (A3.out.after hb3)
  have A5 := Lib.hid hv5
  replace HY := Lib.hid (HY.out.after hb3)
  replace HZ := Lib.hid (HZ.out.after hb3)
  replace BY := Lib.hid (BY.out.after hb3)
  replace BZ := Lib.hid (BZ.out.after hb3)
  replace BR := Lib.hid (BR.out.after hb3)
  replace HB0 := Lib.hid (HB0.out.trans (hb3.mono HB0.out.size))
  clear hv5 hb3 A1 A4
  go_wp2_with fail
  refine (times_n w3 v3 v2 N d A3.out A2.out (by omega) (by omega)).mono ?_
  rintro e w4 ⟨v6, rfl, hv6, hb4⟩
  replace A5 := Lib.hid (A5.out.after hb4)
  have A6 := Lib.hid hv6
  replace HY := Lib.hid (HY.out.after hb4)
  replace HZ := Lib.hid (HZ.out.after hb4)
  replace BY := Lib.hid (BY.out.after hb4)
  replace BZ := Lib.hid (BZ.out.after hb4)
  replace BR := Lib.hid (BR.out.after hb4)
  replace HB0 := Lib.hid (HB0.out.trans (hb4.mono HB0.out.size))
  clear hv6 hb4 A2 A3
  go_wp2_with fail
  refine (compare_c w4 v5 v6 _ _ A5.out A6.out).mono ?_
  rintro e w' ⟨r, rfl, hr, nk, rfl⟩
  obtain ⟨w5, hw5⟩ : ∃ w5, w5 = w4.drewN nk := ⟨_, rfl⟩
  have hb5 : Below w4.heap.size w4 w5 := hw5 ▸ below_drewN w4 nk w4.heap.size
  replace HY := Lib.hid (HY.out.after hb5)
  replace HZ := Lib.hid (HZ.out.after hb5)
  replace BY := Lib.hid (BY.out.after hb5)
  replace BZ := Lib.hid (BZ.out.after hb5)
  replace BR := Lib.hid (BR.out.after hb5)
  replace HB0 := Lib.hid (HB0.out.trans (hb5.mono HB0.out.size))
  rw [← hw5]
  have hrlt := hr.lt
  have hreq := hr.eq
  clear hw5 hb5 hr A5 A6
  obtain ⟨c0, c1, c2⟩ := BY.out.cells3
  obtain ⟨d0, d1, d2⟩ := BZ.out.cells3
  obtain ⟨r0, r1, r2⟩ := BR.out.cells3
  have f0 := BR.out.frozen 0
  have f1 := BR.out.frozen 1
  have f2 := BR.out.frozen 2
  have hly := BY.out.lt
  have hlz := BZ.out.lt
  have hlr := BR.out.lt
  have EY := Lib.hid (HY.out.parts)
  have EZ := Lib.hid (HZ.out.parts)
  obtain ⟨fy0, fy1, fy2⟩ := (end_box BR.out (y0 := .bool s) (y1 := .slice p2 (limbs c).length k2) (y2 := .slice p3 (limbs d).length k3)).cells3
  have FY : Hid (_ ∧ _ ∧ _) := ⟨fy0, fy1, fy2⟩
  obtain ⟨fz0, fz1, fz2⟩ := (end_box BR.out (y0 := .bool t) (y1 := .slice p4 (limbs m).length k4) (y2 := .slice p5 (limbs n).length k5)).cells3
  have FZ : Hid (_ ∧ _ ∧ _) := ⟨fz0, fz1, fz2⟩
  clear fy0 fy1 fy2 fz0 fz1 fz2
  by_cases hlt : M * n < N * d
  · have hr0 : r < 0 := hrlt.2 hlt
    have hc : Hid (closeF a b s t c d m n) := hcl.out.2 (.inl hlt)
    clear hrlt hreq hlt hcl
    go_wp2_with fail
    obtain ⟨y0, y1, y2⟩ := FY.out
    refine bodyPost_ret (v := .agg #[.bool s, .slice p2 (limbs c).length k2, .slice p3 (limbs d).length k3]) (by simp [results, Try.results89, go_sem, y0, y1, y2]) rfl ?_
    rw [pickF_yes hc.out]
    exact retF1_end (x := fr s c d) HB0.out BR.out (fun _ h => by cases h) (fun _ h => by cases h) (by omega) EY.out.2.1 EY.out.2.2
  · by_cases heq : M * n = N * d
    · have hr0 : r = 0 := hreq.2 heq
      subst hr0
      have hcc : Hid (closeF a b s t c d m n ↔ ordN s c d t m n < 0) := ⟨fun h => by rcases hcl.out.1 h with h | h; exact absurd h hlt; exact h.2, fun h => hcl.out.2 (.inr ⟨heq, h⟩)⟩
      clear hrlt hreq hlt heq hcl
      go_wp2_with fail
      refine (order_c w5 _ _ s t c d m n HY.out HZ.out (by omega) (by omega) (by omega) (by omega)).mono ?_
      rintro e w6 ⟨rfl, hb6⟩
      replace HY := Lib.hid (HY.out.after hb6)
      replace HZ := Lib.hid (HZ.out.after hb6)
      replace BY := Lib.hid (BY.out.after hb6)
      replace BZ := Lib.hid (BZ.out.after hb6)
      replace BR := Lib.hid (BR.out.after hb6)
      replace HB0 := Lib.hid (HB0.out.trans (hb6.mono HB0.out.size))
      clear hb6 c0 c1 c2 d0 d1 d2 r0 r1 r2 f0 f1 f2 hly hlz hlr FY FZ EY EZ
      obtain ⟨c0, c1, c2⟩ := BY.out.cells3
      obtain ⟨d0, d1, d2⟩ := BZ.out.cells3
      obtain ⟨r0, r1, r2⟩ := BR.out.cells3
      have f0 := BR.out.frozen 0
      have f1 := BR.out.frozen 1
      have f2 := BR.out.frozen 2
      have hly := BY.out.lt
      have hlz := BZ.out.lt
      have hlr := BR.out.lt
      have EY := Lib.hid (HY.out.parts)
      have EZ := Lib.hid (HZ.out.parts)
      obtain ⟨fy0, fy1, fy2⟩ := (end_box BR.out (y0 := .bool s) (y1 := .slice p2 (limbs c).length k2) (y2 := .slice p3 (limbs d).length k3)).cells3
      have FY : Hid (_ ∧ _ ∧ _) := ⟨fy0, fy1, fy2⟩
      obtain ⟨fz0, fz1, fz2⟩ := (end_box BR.out (y0 := .bool t) (y1 := .slice p4 (limbs m).length k4) (y2 := .slice p5 (limbs n).length k5)).cells3
      have FZ : Hid (_ ∧ _ ∧ _) := ⟨fz0, fz1, fz2⟩
      clear fy0 fy1 fy2 fz0 fz1 fz2
      obtain ⟨o, ho⟩ : ∃ o, ordN s c d t m n = o := ⟨_, rfl⟩
      rw [ho] at hcc ⊢
      clear ho
      by_cases ho : o < 0
      · have hc : Hid (closeF a b s t c d m n) := hcc.out.2 ho
        have hod : decide (o < 0) = true := decide_eq_true ho
        clear ho hcc
        go_wp2_with fail
        obtain ⟨y0, y1, y2⟩ := FY.out
        refine bodyPost_ret (v := .agg #[.bool s, .slice p2 (limbs c).length k2, .slice p3 (limbs d).length k3]) (by simp [results, Try.results89, go_sem, y0, y1, y2]) rfl ?_
        rw [pickF_yes hc.out]
        exact retF1_end (x := fr s c d) HB0.out BR.out (fun _ h => by cases h) (fun _ h => by cases h) (by omega) EY.out.2.1 EY.out.2.2
      · have hc : Hid (¬ closeF a b s t c d m n) := fun h => ho (hcc.out.1 h)
        have hod : decide (o < 0) = false := decide_eq_false ho
        clear ho hcc
        go_wp2_with fail
        obtain ⟨y0, y1, y2⟩ := FZ.out
        refine bodyPost_ret (v := .agg #[.bool t, .slice p4 (limbs m).length k4, .slice p5 (limbs n).length k5]) (by simp [results, Try.results89, go_sem, y0, y1, y2]) rfl ?_
        rw [pickF_no hc.out]
        exact retF1_end (x := fr t m n) HB0.out BR.out (fun _ h => by cases h) (fun _ h => by cases h) (by omega) EZ.out.2.1 EZ.out.2.2
    · have hr0 : decide (r < 0) = false := decide_eq_false (fun h => hlt (hrlt.1 h))
      have hr1 : (r == 0) = false := by rw [beq_eq_false_iff_ne]; exact fun h => heq (hreq.1 h)
      have hc : Hid (¬ closeF a b s t c d m n) := fun h => by rcases hcl.out.1 h with h | h; exact hlt h; exact heq h.1
      clear hrlt hreq hlt heq hcl
      go_wp2_with fail
      obtain ⟨y0, y1, y2⟩ := FZ.out
      refine bodyPost_ret (v := .agg #[.bool t, .slice p4 (limbs m).length k4, .slice p5 (limbs n).length k5]) (by simp [results, Try.results89, go_sem, y0, y1, y2]) rfl ?_
      rw [pickF_no hc.out]
      exact retF1_end (x := fr t m n) HB0.out BR.out (fun _ h => by cases h) (fun _ h => by cases h) (by omega) EZ.out.2.1 EZ.out.2.2
end Go.Proofs.Ytaojdlcailpheaa

namespace Go.Proofs.Ytaojdlcailpheaa
open Go.RowKit

/-- As many times the last fraction as the denominator allows, and the one before it. -/
def nearK (N : Nat) (c : Ch) : Ch := c.after ((N - c.od) / c.den)
theorem NI.bound {N a b A B : Nat} {c : Ch} {s : Int} (h : NI N a b c A B s) (hb : N < b) (hB : 0 < B) : 0 < A ∧ c.num ≤ a ∧ c.on ≤ a ∧ c.den ≤ b ∧ c.od ≤ b := by
  obtain ⟨h1, h2, h3, h4, h5, h6, h7⟩ := h
  have hA : 0 < A := by
    rcases Nat.eq_zero_or_pos A with h0 | h0
    · subst h0
      rw [Nat.gcd_zero_left] at h7
      subst h7
      omega
    · exact h0
  have m1 : 1 * c.num ≤ A * c.num := Nat.mul_le_mul_right _ hA
  have m2 : 1 * c.on ≤ B * c.on := Nat.mul_le_mul_right _ hB
  have m3 : 1 * c.den ≤ A * c.den := Nat.mul_le_mul_right _ hA
  have m4 : 1 * c.od ≤ B * c.od := Nat.mul_le_mul_right _ hB
  exact ⟨hA, by omega, by omega, by omega, by omega⟩
theorem NI.pick {N a b A B : Nat} {c : Ch} {s : Int} (h : NI N a b c A B s) (hb : N < b) (hB : 0 < B) (hN : N < (c.after (A / B)).den) : (nearK N c).num ≤ a ∧ (nearK N c).den ≤ N ∧ 0 < c.den ∧ 0 < (nearK N c).den := by
  obtain ⟨k1, k2, k3, _⟩ := near_side h hB (by omega) hN
  obtain ⟨h1, h2, h3, h4, h5, h6, h7⟩ := h
  refine ⟨?_, k3, k1, k2⟩
  show (N - c.od) / c.den * c.num + c.on ≤ a
  have hN' : N < A / B * c.den + c.od := hN
  generalize (N - c.od) / c.den = k at *
  have hk : k < A / B := by
    have : k * c.den < A / B * c.den := by omega
    exact Nat.lt_of_mul_lt_mul_right this
  have e1 : k * c.num ≤ A / B * c.num := Nat.mul_le_mul_right _ (Nat.le_of_lt hk)
  have e2 : A / B * c.num ≤ A * c.num := Nat.mul_le_mul_right _ (Nat.div_le_self _ _)
  have e3 : 1 * c.on ≤ B * c.on := Nat.mul_le_mul_right _ hB
  omega
theorem NI.det_cop {c : Ch} {s : Int} (hs : s = 1 ∨ s = -1) (h : (c.num : Int) * c.od - c.den * c.on = s) : Nat.gcd c.num c.den = 1 := by
  have hg : ((Nat.gcd c.num c.den : Nat) : Int) ∣ s := by
    rw [← h]
    have d1 : ((Nat.gcd c.num c.den : Nat) : Int) ∣ (c.num : Int) := Int.natCast_dvd_natCast.2 (Nat.gcd_dvd_left _ _)
    have d2 : ((Nat.gcd c.num c.den : Nat) : Int) ∣ (c.den : Int) := Int.natCast_dvd_natCast.2 (Nat.gcd_dvd_right _ _)
    exact Int.dvd_sub (Int.dvd_mul_of_dvd_left d1) (Int.dvd_mul_of_dvd_left d2)
  have h1 : ((Nat.gcd c.num c.den : Nat) : Int) ∣ 1 := by
    rcases hs with rfl | rfl
    · exact hg
    · exact Int.dvd_neg.1 hg
  have := Int.natCast_dvd_natCast.1 (show ((Nat.gcd c.num c.den : Nat) : Int) ∣ ((1 : Nat) : Int) from h1)
  exact Nat.dvd_one.1 this
theorem nearK_cop {N : Nat} {c : Ch} {s : Int} (hs : s = 1 ∨ s = -1) (h : (c.num : Int) * c.od - c.den * c.on = s) : Nat.gcd (nearK N c).num (nearK N c).den = 1 := by
  refine NI.det_cop (s := -s) (by omega) ?_
  unfold nearK Ch.after
  simp only
  push_cast
  generalize (((N - c.od) / c.den : Nat) : Int) = q
  rw [← h]
  grind

/-- The nearest fraction of a / b, with a sign, where b is greater than N. -/
def nearC (s : Bool) (a b N : Nat) (c : Ch) : F :=
  pickF a b (s && decide (0 < (nearK N c).num)) (s && decide (0 < c.num)) (nearK N c).num (nearK N c).den c.num c.den
/-- What Nearest returns. -/
noncomputable def nearF (x : F) (N : Int) : F × Int := open Classical in
  if ¬ ValidF x then (F0, 1) else if N < 1 ∨ 1000 < N then (F0, 2) else if val x.den ≤ N.toNat then (x, 0)
  else (nearC x.neg (val x.num) (val x.den) N.toNat (nearL N.toNat Ch.begun (cf (val x.num) (val x.den))), 0)
theorem nearF_no {x : F} {N : Int} (h : ¬ ValidF x) : nearF x N = (F0, 1) := by unfold nearF; rw [if_pos h]
theorem nearF_fr {s : Bool} {a b : Nat} {N : Int} (h : Ok s a b) : nearF (fr s a b) N = if N < 1 ∨ 1000 < N then (F0, 2) else if b ≤ N.toNat then (fr s a b, 0) else (nearC s a b N.toNat (nearL N.toNat Ch.begun (cf a b)), 0) := by
  unfold nearF
  rw [if_neg (fun e => e (validF_fr.2 h))]
  simp only [fr, val_limbs]
end Go.Proofs.Ytaojdlcailpheaa

namespace Go.Proofs.Ytaojdlcailpheaa
open Go.RowKit

/-- How many operations are still to come. -/
def toCome (listed : Array Bool) : Nat := listed.toList.count false
theorem ready_mem {md : Region.Mode} {ops : Array Oper} {listed : Array Bool} {i : Nat} (h : i ∈ Region.ready md ops listed) :
    i < ops.size ∧ listed.getD i true = false ∧ ∃ o, ops[i]? = some o ∧ ∀ e ∈ o.after, Region.binds md e = true → listed.getD e.on false = true := by
  unfold Region.ready at h
  rw [List.mem_filter, List.mem_range] at h
  obtain ⟨h1, h2⟩ := h
  rw [Bool.and_eq_true] at h2
  obtain ⟨h2, h3⟩ := h2
  have ho : ops[i]? = some ops[i] := Array.getElem?_eq_getElem h1
  refine ⟨h1, by simpa using h2, ops[i], ho, fun e he hb => ?_⟩
  rw [ho] at h3
  simp only [Option.map_some, Option.getD_some] at h3
  have := Array.all_eq_true'.1 h3 e he
  rw [hb] at this
  simpa using this
theorem toCome_pos {listed : Array Bool} {i : Nat} (h : listed.getD i true = false) : toCome (listed.setIfInBounds i true) + 1 = toCome listed := by
  have hi : i < listed.size := by
    rcases Nat.lt_or_ge i listed.size with h1 | h1
    · exact h1
    · rw [Array.getD_eq_getD_getElem?, Array.getElem?_eq_none h1] at h; cases h
  have hg : listed.toList[i]'(by simpa using hi) = false := by
    rw [Array.getD_eq_getD_getElem?, Array.getElem?_eq_getElem hi] at h
    simpa using h
  unfold toCome
  rw [Array.toList_setIfInBounds, List.count_set (by simpa using hi), hg]
  have hpos : 0 < listed.toList.count false := List.count_pos_iff.2 (hg ▸ List.getElem_mem _)
  change listed.toList.count false - 1 + 0 + 1 = _
  omega
section
variable {P : Program} {ops : Array Oper} {Q : Exit → Act → World → Prop} {md : Region.Mode} {J : Array Bool → Act → World → Prop}

theorem wpAny_inv (hstep : ∀ listed a w i, i ∈ Region.ready md ops listed → J listed a w → wpOp P ops Q i (J (listed.setIfInBounds i true)) a w)
    (hend : ∀ listed a w, Region.ready md ops listed = [] → J listed a w → Q .normal a w) :
    ∀ (fuel : Nat) (listed : Array Bool) (a : Act) (w : World), toCome listed ≤ fuel → J listed a w → wpAny P md ops Q fuel listed a w
  | 0, listed, a, w, hc, hj => by
    have hr : Region.ready md ops listed = [] := by
      rcases hh : Region.ready md ops listed with _ | ⟨i, l⟩
      · rfl
      · have hi : i ∈ Region.ready md ops listed := by rw [hh]; exact List.mem_cons_self ..
        have := toCome_pos (ready_mem hi).2.1
        omega
    exact ⟨hr, hend _ _ _ hr hj⟩
  | fuel + 1, listed, a, w, hc, hj => by
    refine ⟨fun hr => hend _ _ _ hr hj, fun i hi => wpOp_mono (fun a w h => ?_) (hstep listed a w i hi hj)⟩
    exact wpAny_inv hstep hend fuel _ a w (by have := toCome_pos (ready_mem hi).2.1; omega) h
theorem toCome_start (n : Nat) : toCome (Array.replicate n false) ≤ n := by unfold toCome; simp
/-- A region that draws its order, by an invariant. -/
theorem wp_region_inv {id : Nat} {a : Act} {w : World} (hm : P.follows .mixedOrders = true)
    (hstep : ∀ listed a w i, i ∈ Region.ready .any ops listed → J listed a w → wpOp P ops Q i (J (listed.setIfInBounds i true)) a w)
    (hend : ∀ listed a w, Region.ready .any ops listed = [] → J listed a w → Q .normal a w)
    (h0 : J (Array.replicate ops.size false) a w.drew) : (Code.region id ops true).wp P Q a w :=
  wp_region_any hm (wpAny_inv hstep hend ops.size _ _ _ (toCome_start _) h0)
end
section
variable {F : Fence} {n : Nat} {P : Program} {ops : Array Oper} {Q : Exit → Act → World → Prop} {md : Region.Mode} {J : Array Bool → Act → World → Prop}
theorem wpAnyIn_inv (hstep : ∀ listed a w i, i ∈ Region.ready md ops listed → J listed a w → wpOpIn F n P ops Q i (J (listed.setIfInBounds i true)) a w)
    (hend : ∀ listed a w, Region.ready md ops listed = [] → J listed a w → Q .normal a w) :
    ∀ (fuel : Nat) (listed : Array Bool) (a : Act) (w : World), toCome listed ≤ fuel → J listed a w → wpAnyIn F n P md ops Q fuel listed a w
  | 0, listed, a, w, hc, hj => by
    have hr : Region.ready md ops listed = [] := by
      rcases hh : Region.ready md ops listed with _ | ⟨i, l⟩
      · rfl
      · have hi : i ∈ Region.ready md ops listed := by rw [hh]; exact List.mem_cons_self ..
        have := toCome_pos (ready_mem hi).2.1
        omega
    exact ⟨hr, hend _ _ _ hr hj⟩
  | fuel + 1, listed, a, w, hc, hj => by
    refine ⟨fun hr => hend _ _ _ hr hj, fun i hi => wpOpIn_mono (fun a w h => ?_) (hstep listed a w i hi hj)⟩
    exact wpAnyIn_inv hstep hend fuel _ a w (by have := toCome_pos (ready_mem hi).2.1; omega) h
theorem wpIn_region_inv {id : Nat} {a : Act} {w : World} (hm : P.follows .mixedOrders = true)
    (hstep : ∀ listed a w i, i ∈ Region.ready .any ops listed → J listed a w → wpOpIn F n P ops Q i (J (listed.setIfInBounds i true)) a w)
    (hend : ∀ listed a w, Region.ready .any ops listed = [] → J listed a w → Q .normal a w)
    (h0 : J (Array.replicate ops.size false) a w.drew) : (Code.region id ops true).wpIn F n P Q a w :=
  wpIn_region_any hm (wpAnyIn_inv hstep hend ops.size _ _ _ (toCome_start _) h0)
end

/-- What each operation's temporary holds, once it has come up; the other temporaries are as before; memory that stood is as it was. -/
structure FJ (ops : Array Oper) (S : Nat → Value → World → Prop) (a0 : Act) (w0 : World) (listed : Array Bool) (a : Act) (w : World) : Prop where
  below : Below w0.heap.size w0 w
  defers : a.defers = a0.defers
  size : a.tmps.size = a0.tmps.size
  old : ∀ t : Nat, (∀ (k : Nat) (o : Oper), ops[k]? = some o → o.dst ≠ some t) → a.tmps.getD t undef = a0.tmps.getD t undef
  got : ∀ (k : Nat) (o : Oper) (t : Nat), ops[k]? = some o → o.dst = some t → listed.getD k false = true → S k (a.tmps.getD t undef) w
theorem FJ.start (ops : Array Oper) (S : Nat → Value → World → Prop) (a : Act) (w : World) : FJ ops S a w (Array.replicate ops.size false) a w.drew := by
  refine ⟨⟨rfl, rfl, rfl, Nat.le_refl _, fun _ _ => rfl⟩, rfl, rfl, fun _ _ => rfl, fun k o t ho ht hl => ?_⟩
  rw [Array.getD_eq_getD_getElem?, Array.getElem?_replicate] at hl
  split at hl <;> simp at hl
/-- No two operations write one temporary. -/
def DstOnce (ops : Array Oper) : Prop := ∀ (k k' : Nat) (o o' : Oper) (t : Nat), ops[k]? = some o → ops[k']? = some o' → o.dst = some t → o'.dst = some t → k = k'
theorem FJ.step {ops : Array Oper} {S : Nat → Value → World → Prop} {a0 : Act} {w0 : World} {listed : Array Bool} {a : Act} {w w' : World} {i t : Nat} {o : Oper} {v : Value}
    (h : FJ ops S a0 w0 listed a w) (hd : DstOnce ops) (hS : ∀ k v w w', S k v w → Below w.heap.size w w' → S k v w')
    (ho : ops[i]? = some o) (ht : o.dst = some t) (hlt : t < a0.tmps.size) (hb : Below w.heap.size w w') (hv : S i v w') : FJ ops S a0 w0 (listed.setIfInBounds i true) (a.put o.dst v) w' := by
  have hp : a.put o.dst v = { a with tmps := a.tmps.setIfInBounds t v } := by rw [ht]; rfl
  rw [hp]
  refine ⟨h.below.trans (hb.mono h.below.size), h.defers, by simp [h.size], fun t' hn => ?_, fun k o' t' hk ht' hl => ?_⟩
  · have hne : t ≠ t' := fun e => hn i o ho (e ▸ ht)
    show (a.tmps.setIfInBounds t v).getD t' undef = _
    rw [← h.old t' hn, Array.getD_eq_getD_getElem?, Array.getElem?_setIfInBounds_ne hne, ← Array.getD_eq_getD_getElem?]
  · show S k ((a.tmps.setIfInBounds t v).getD t' undef) w'
    by_cases hki : k = i
    · subst hki
      obtain rfl : o = o' := by rw [ho] at hk; exact Option.some.inj hk
      obtain rfl : t = t' := by rw [ht] at ht'; exact Option.some.inj ht'
      rw [Array.getD_eq_getD_getElem?, Array.getElem?_setIfInBounds_self_of_lt (by rw [h.size]; exact hlt)]
      exact hv
    · have hne : t ≠ t' := fun e => hki (hd k i o' o t' hk ho ht' (e ▸ ht))
      rw [Array.getD_eq_getD_getElem?, Array.getElem?_setIfInBounds_ne hne, ← Array.getD_eq_getD_getElem?]
      refine hS _ _ _ _ (h.got k o' t' hk ht' ?_) hb
      rw [Array.getD_eq_getD_getElem?, Array.getElem?_setIfInBounds_ne (fun e => hki e.symm), ← Array.getD_eq_getD_getElem?] at hl
      exact hl
/-- An operation that writes a temporary, whatever came before it. -/
theorem FJ.op {P : Program} {Q : Exit → Act → World → Prop} {ops : Array Oper} {S : Nat → Value → World → Prop} {a0 : Act} {w0 : World} {listed : Array Bool} {a : Act} {w : World} {i t : Nat} {o : Oper}
    (h : FJ ops S a0 w0 listed a w) (hd : DstOnce ops) (hS : ∀ k v w w', S k v w → Below w.heap.size w w' → S k v w')
    (ho : ops[i]? = some o) (ht : o.dst = some t) (hlt : t < a0.tmps.size)
    (hrun : ∀ K : Act → World → Prop, (∀ v w', Below w.heap.size w w' → S i v w' → K (a.put o.dst v) w') → if Region.wanted o (yielded ops a.tmps) = true then o.wp P a w K Q else K (a.put o.dst undef) w) :
    wpOp P ops Q i (FJ ops S a0 w0 (listed.setIfInBounds i true)) a w := by
  have hk := hrun (FJ ops S a0 w0 (listed.setIfInBounds i true)) (fun v w' hb hv => h.step hd hS ho ht hlt hb hv)
  unfold wpOp
  simp only [ho]
  by_cases hw : Region.wanted o (yielded ops a.tmps) = true
  · rw [if_pos hw] at hk
    rw [if_pos hw]
    exact .inl hk
  · rw [if_neg hw] at hk
    rw [if_neg hw]
    exact hk
/-- The same, within a round of a range over a function. -/
theorem FJ.opIn {F : Fence} {n : Nat} {P : Program} {Q : Exit → Act → World → Prop} {ops : Array Oper} {S : Nat → Value → World → Prop} {a0 : Act} {w0 : World} {listed : Array Bool} {a : Act} {w : World} {i t : Nat} {o : Oper}
    (h : FJ ops S a0 w0 listed a w) (hd : DstOnce ops) (hS : ∀ k v w w', S k v w → Below w.heap.size w w' → S k v w')
    (ho : ops[i]? = some o) (ht : o.dst = some t) (hlt : t < a0.tmps.size)
    (hrun : ∀ K : Act → World → Prop, (∀ v w', Below w.heap.size w w' → S i v w' → K (a.put o.dst v) w') → if Region.wanted o (yielded ops a.tmps) = true then o.wpIn F n P a w K Q else (∀ f, o.about P w a.eval = some f → F.fn f) ∧ K (a.put o.dst undef) w) :
    wpOpIn F n P ops Q i (FJ ops S a0 w0 (listed.setIfInBounds i true)) a w := by
  have hk := hrun (FJ ops S a0 w0 (listed.setIfInBounds i true)) (fun v w' hb hv => h.step hd hS ho ht hlt hb hv)
  unfold wpOpIn
  simp only [ho]
  by_cases hw : Region.wanted o (yielded ops a.tmps) = true
  · rw [if_pos hw] at hk
    rw [if_pos hw]
    exact hk
  · rw [if_neg hw] at hk
    rw [if_neg hw]
    exact hk
/-- An array that agrees with another but at the places of D. -/
theorem array_of_old {α : Type} (z : α) : ∀ (D : List Nat) (x y : Array α), x.size = y.size → (∀ t, t ∉ D → x.getD t z = y.getD t z) → x = D.foldl (fun y d => y.setIfInBounds d (x.getD d z)) y
  | [], x, y, hs, h => by
    apply Array.ext hs
    intro i h1 h2
    have := h i (by simp)
    rw [Array.getD_eq_getD_getElem?, Array.getD_eq_getD_getElem?, Array.getElem?_eq_getElem h1, Array.getElem?_eq_getElem h2] at this
    simpa using this
  | d :: D, x, y, hs, h => by
    rw [List.foldl_cons]
    refine array_of_old z D x _ (by simp [hs]) (fun t ht => ?_)
    by_cases e : d = t
    · subst e
      rcases Nat.lt_or_ge d y.size with hd | hd
      · rw [Array.getD_eq_getD_getElem? (xs := y.setIfInBounds _ _), Array.getElem?_setIfInBounds_self_of_lt hd]; rfl
      · rw [Array.getD_eq_getD_getElem?, Array.getD_eq_getD_getElem?, Array.getElem?_eq_none (by omega), Array.getElem?_eq_none (by simp; omega)]
    · rw [Array.getD_eq_getD_getElem? (xs := y.setIfInBounds _ _), Array.getElem?_setIfInBounds_ne e, ← Array.getD_eq_getD_getElem?]
      exact h t (by simp; exact ⟨fun e' => e e'.symm, ht⟩)
end Go.Proofs.Ytaojdlcailpheaa
