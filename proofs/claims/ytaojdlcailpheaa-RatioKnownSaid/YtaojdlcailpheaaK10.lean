/- Walks of package ratio: a continued fraction so far: begun, after, ratio.
   A range over a function, in general: after r rounds memory is as a relation J r says; the body may write memory. One law for the caller.
   A range over a function: as wpIn_range_inv, and the body keeps each row of limbs. -/
import Derived.Test.YtaojdlcailpheaaK09
import Derived.RangeFuncNested
import Derived.RangeFuncBound
import Derived.RangeFuncCalls
import Derived.RangeFuncLeaves
import Derived.Shelf.Abstract
import Derived.Test.YtaojdlcailpheaaK01
set_option linter.unusedVariables false
namespace Go.Proofs.Ytaojdlcailpheaa
open Go.RowKit

theorem Box.cells4 {w : World} {b : Nat} {x y z u : Value} {t : TypeId} (h : Box w b #[x, y, z, u] t) : w.cell? ⟨b, 0, none⟩ = some x ∧ w.cell? ⟨b, 1, none⟩ = some y ∧ w.cell? ⟨b, 2, none⟩ = some z ∧ w.cell? ⟨b, 3, none⟩ = some u :=
  ⟨by rw [h.cell]; rfl, by rw [h.cell]; rfl, by rw [h.cell]; rfl, by rw [h.cell]; rfl⟩
/-- The value v reads as the chain c. -/
def IsC (w : World) (v : Value) (c : Ch) : Prop := ∃ v0 v1 v2 v3, v = .agg #[v0, v1, v2, v3] ∧ Sl w v0 (limbs c.num) ∧ Sl w v1 (limbs c.den) ∧ Sl w v2 (limbs c.on) ∧ Sl w v3 (limbs c.od)
theorem IsC.after {w w' : World} {v : Value} {c : Ch} (h : IsC w v c) (hb : Below w.heap.size w w') : IsC w' v c := by
  obtain ⟨v0, v1, v2, v3, e, h0, h1, h2, h3⟩ := h
  exact ⟨v0, v1, v2, v3, e, h0.after hb, h1.after hb, h2.after hb, h3.after hb⟩
theorem IsC.open {w : World} {v : Value} {c : Ch} (h : IsC w v c) : ∃ (p0 p1 p2 p3 : Option Addr) (c0 c1 c2 c3 : Nat),
    v = .agg #[.slice p0 (limbs c.num).length c0, .slice p1 (limbs c.den).length c1, .slice p2 (limbs c.on).length c2, .slice p3 (limbs c.od).length c3] ∧
    Sl w (.slice p0 (limbs c.num).length c0) (limbs c.num) ∧ Sl w (.slice p1 (limbs c.den).length c1) (limbs c.den) ∧ Sl w (.slice p2 (limbs c.on).length c2) (limbs c.on) ∧ Sl w (.slice p3 (limbs c.od).length c3) (limbs c.od) := by
  obtain ⟨v0, v1, v2, v3, rfl, h0, h1, h2, h3⟩ := h
  obtain ⟨p0, c0, rfl, _, _⟩ := h0.shape
  obtain ⟨p1, c1, rfl, _, _⟩ := h1.shape
  obtain ⟨p2, c2, rfl, _, _⟩ := h2.shape
  obtain ⟨p3, c3, rfl, _, _⟩ := h3.shape
  exact ⟨p0, p1, p2, p3, c0, c1, c2, c3, rfl, h0, h1, h2, h3⟩
/-- A chain's fields are short. -/
def Ch.le (c : Ch) (k : Nat) : Prop := (limbs c.num).length ≤ k ∧ (limbs c.den).length ≤ k ∧ (limbs c.on).length ≤ k ∧ (limbs c.od).length ≤ k
/-- A row of four slices. -/
theorem noU_sl {w : World} {v : Value} {l : List Nat} (h : Sl w v l) : ∀ x, v ≠ .int .u32 x := by
  obtain ⟨p, c, rfl, _⟩ := h.shape
  intro x e; cases e
theorem NoU.four {a b c d : Value} (ha : ∀ x, a ≠ .int .u32 x) (hb : ∀ x, b ≠ .int .u32 x) (hc : ∀ x, c ≠ .int .u32 x) (hd : ∀ x, d ≠ .int .u32 x) : NoU #[a, b, c, d] := by
  intro i x
  match i with
  | 0 => simpa using ha x
  | 1 => simpa using hb x
  | 2 => simpa using hc x
  | 3 => simpa using hd x
  | k + 4 => simp
/-- The world behind a store of a chain. -/
def set4 (w : World) (b : Nat) (y0 y1 y2 y3 : Value) : World := (((w.setCell ⟨b, 0, none⟩ y0).setCell ⟨b, 1, none⟩ y1).setCell ⟨b, 2, none⟩ y2).setCell ⟨b, 3, none⟩ y3
section
variable {w : World} {b : Nat} {x0 x1 x2 x3 y0 y1 y2 y3 : Value} {t : TypeId}
theorem set4_box (h : Box w b #[x0, x1, x2, x3] t) : Box (set4 w b y0 y1 y2 y3) b #[y0, y1, y2, y3] t := by
  have := (((h.set 0 y0).set 1 y1).set 2 y2).set 3 y3
  unfold set4
  simpa using this
theorem set4_sl (h : Box w b #[x0, x1, x2, x3] t) (h0 : ∀ x, x0 ≠ .int .u32 x) (h1 : ∀ x, x1 ≠ .int .u32 x) (h2 : ∀ x, x2 ≠ .int .u32 x) (h3 : ∀ x, x3 ≠ .int .u32 x) (k0 : ∀ x, y0 ≠ .int .u32 x) (k1 : ∀ x, y1 ≠ .int .u32 x) (k2 : ∀ x, y2 ≠ .int .u32 x)
    {v : Value} {l : List Nat} (hs : Sl w v l) : Sl (set4 w b y0 y1 y2 y3) v l := by
  have b1 : Box (w.setCell ⟨b, 0, none⟩ y0) b #[y0, x1, x2, x3] t := by simpa using h.set 0 y0
  have b2 : Box ((w.setCell ⟨b, 0, none⟩ y0).setCell ⟨b, 1, none⟩ y1) b #[y0, y1, x2, x3] t := by simpa using b1.set 1 y1
  have b3 : Box (((w.setCell ⟨b, 0, none⟩ y0).setCell ⟨b, 1, none⟩ y1).setCell ⟨b, 2, none⟩ y2) b #[y0, y1, y2, x3] t := by simpa using b2.set 2 y2
  exact (((hs.box h (NoU.four h0 h1 h2 h3) 0 y0).box b1 (NoU.four k0 h1 h2 h3) 1 y1).box b2 (NoU.four k0 k1 h2 h3) 2 y2).box b3 (NoU.four k0 k1 k2 h3) 3 y3
theorem set4_below {w0 : World} {B : Nat} (h : Below B w0 w) (hb : B ≤ b) : Below B w0 (set4 w b y0 y1 y2 y3) := (((h.setCell hb _).setCell hb _).setCell hb _).setCell hb _
/-- A function's result: a chain, just stored. -/
theorem IsC.result {v0 v1 v2 v3 : Value} {c : Ch} (h : Box w b #[.slice none 0 0, .slice none 0 0, .slice none 0 0, .slice none 0 0] t) (h0 : Sl w v0 (limbs c.num)) (h1 : Sl w v1 (limbs c.den)) (h2 : Sl w v2 (limbs c.on)) (h3 : Sl w v3 (limbs c.od)) :
    IsC (set4 w b v0 v1 v2 v3) (.agg #[v0, v1, v2, v3]) c := by
  have z : ∀ x, Value.slice none 0 0 ≠ .int .u32 x := fun _ e => by cases e
  have g : ∀ {v l}, Sl w v l → Sl (set4 w b v0 v1 v2 v3) v l := fun hs => set4_sl h z z z z (noU_sl h0) (noU_sl h1) (noU_sl h2) hs
  exact ⟨v0, v1, v2, v3, rfl, g h0, g h1, g h2, g h3⟩
end
theorem keep4z {W : World} {R X : Nat} {u0 u1 u2 u3 a b c d : Value} (h : R ≠ X) (hs : W.cell? ⟨X, 0, none⟩ = some a ∧ W.cell? ⟨X, 1, none⟩ = some b ∧ W.cell? ⟨X, 2, none⟩ = some c ∧ W.cell? ⟨X, 3, none⟩ = some d) :
    ((((W.setCell ⟨R, 0, none⟩ u0).setCell ⟨R, 1, none⟩ u1).setCell ⟨R, 2, none⟩ u2).setCell ⟨R, 3, none⟩ u3).cell? ⟨X, 0, none⟩ = some a ∧ ((((W.setCell ⟨R, 0, none⟩ u0).setCell ⟨R, 1, none⟩ u1).setCell ⟨R, 2, none⟩ u2).setCell ⟨R, 3, none⟩ u3).cell? ⟨X, 1, none⟩ = some b ∧ ((((W.setCell ⟨R, 0, none⟩ u0).setCell ⟨R, 1, none⟩ u1).setCell ⟨R, 2, none⟩ u2).setCell ⟨R, 3, none⟩ u3).cell? ⟨X, 2, none⟩ = some c ∧ ((((W.setCell ⟨R, 0, none⟩ u0).setCell ⟨R, 1, none⟩ u1).setCell ⟨R, 2, none⟩ u2).setCell ⟨R, 3, none⟩ u3).cell? ⟨X, 3, none⟩ = some d := by
  have k : ∀ j, ((((W.setCell ⟨R, 0, none⟩ u0).setCell ⟨R, 1, none⟩ u1).setCell ⟨R, 2, none⟩ u2).setCell ⟨R, 3, none⟩ u3).cell? ⟨X, j, none⟩ = W.cell? ⟨X, j, none⟩ := fun j => by
    rw [World.cell?_setCell_other _ _ _ _ (fun e => h (by injection e)), World.cell?_setCell_other _ _ _ _ (fun e => h (by injection e)), World.cell?_setCell_other _ _ _ _ (fun e => h (by injection e)), World.cell?_setCell_other _ _ _ _ (fun e => h (by injection e))]
  exact ⟨(k 0).trans hs.1, (k 1).trans hs.2.1, (k 2).trans hs.2.2.1, (k 3).trans hs.2.2.2⟩
/-- What a function that returns a chain returns. -/
def RetCh (w : World) (c : Ch) (e : Ending) (w' : World) : Prop := ∃ v, e = .returned v ∧ IsC w' v c ∧ Below w.heap.size w w'

set_option maxRecDepth 100000 in
set_option maxHeartbeats 1000000 in
theorem begun_c (w : World) : Calls Try.prog 84 #[] w (RetCh w Ch.begun) := by
  obtain ⟨W0, hW⟩ : ∃ W0, W0 = w.alloc (.cells #[.slice none 0 0, .slice none 0 0, .slice none 0 0, .slice none 0 0] 85) := ⟨_, rfl⟩
  have hb0 : Below w.heap.size w W0 := hW ▸ held_alloc (Below.refl _ w)
  have BR := Lib.hid (show Box W0 w.heap.size #[.slice none 0 0, .slice none 0 0, .slice none 0 0, .slice none 0 0] 85 from hW ▸ Box.new w _ _)
  have HB0 := Lib.hid hb0
  clear hb0
  go_enter Try.func84, Try.ntmps84
  go_upto_region 1 with fail
  rw [← hW]
  clear hW
  go_wp2_with fail
  refine (unit_c _).mono ?_
  rintro e w1 ⟨v1, rfl, hv1, hb1⟩
  go_wp2_with fail
  refine (unit_c _).mono ?_
  rintro e w2 ⟨v2, rfl, hv2, hb2⟩
  have hbb := hb1.trans (hb2.mono hb1.size)
  have H1 := Lib.hid (hv1.after hb2)
  have H2 := Lib.hid hv2
  obtain ⟨p, cp, rfl, _, _⟩ := hv1.shape
  obtain ⟨q, cq, rfl, _, _⟩ := hv2.shape
  have BR2 := Lib.hid (BR.out.after hbb)
  have HB2 := Lib.hid (HB0.out.trans (hbb.mono HB0.out.size))
  clear hb1 hb2 hbb hv1 hv2 BR HB0
  obtain ⟨r0, r1, r2, r3⟩ := BR2.out.cells4
  have f0 := BR2.out.frozen 0
  have f1 := BR2.out.frozen 1
  have f2 := BR2.out.frozen 2
  have f3 := BR2.out.frozen 3
  have hlt := BR2.out.lt
  rw [limbs_one] at H1 H2 ⊢
  go_wp2_with fail
  obtain ⟨e0, e1, e2, e3⟩ := (set4_box BR2.out (y0 := .slice p [1].length cp) (y1 := .slice none 0 0) (y2 := .slice none 0 0) (y3 := .slice q [1].length cq)).cells4
  refine bodyPost_ret (v := .agg #[.slice p [1].length cp, .slice none 0 0, .slice none 0 0, .slice q [1].length cq]) (by unfold set4 at e0 e1 e2 e3; simp only [List.length_cons, List.length_nil] at e0 e1 e2 e3 ⊢; simp [results, Try.results84, go_sem, e0, e1, e2, e3]) rfl ?_
  refine ⟨_, rfl, ?_, set4_below HB2.out (Nat.le_refl _)⟩
  exact IsC.result (c := Ch.begun) BR2.out (by show Sl _ _ (limbs 1); rw [limbs_one]; exact H1.out) (by show Sl _ _ (limbs 0); rw [limbs_zero]; exact Sl.nil _) (by show Sl _ _ (limbs 0); rw [limbs_zero]; exact Sl.nil _) (by show Sl _ _ (limbs 1); rw [limbs_one]; exact H2.out)

set_option maxRecDepth 100000 in
set_option maxHeartbeats 1000000 in
theorem chainRatio_c (w : World) (v : Value) (c : Ch) (h : IsC w v c) : Calls Try.prog 88 #[v] w (RetF1 w (fr false c.num c.den)) := by
  have HX := h
  obtain ⟨p0, p1, p2, p3, c0, c1, c2, c3, rfl, h0, h1, h2, h3⟩ := h.open
  obtain ⟨W0, hW⟩ : ∃ W0, W0 = (w.alloc (.cells #[.slice p0 (limbs c.num).length c0, .slice p1 (limbs c.den).length c1, .slice p2 (limbs c.on).length c2, .slice p3 (limbs c.od).length c3] 85)).alloc (.cells #[.bool false, .slice none 0 0, .slice none 0 0] 25) := ⟨_, rfl⟩
  have hb0 : Below w.heap.size w W0 := hW ▸ held_alloc (held_alloc (Below.refl _ w))
  have bx : Box W0 w.heap.size #[.slice p0 (limbs c.num).length c0, .slice p1 (limbs c.den).length c1, .slice p2 (limbs c.on).length c2, .slice p3 (limbs c.od).length c3] 85 := hW ▸ (Box.new w _ _).alloc _
  have br : Box W0 (w.heap.size + 1) #[.bool false, .slice none 0 0, .slice none 0 0] 25 := by
    rw [hW]
    have := Box.new (w.alloc (.cells #[.slice p0 (limbs c.num).length c0, .slice p1 (limbs c.den).length c1, .slice p2 (limbs c.on).length c2, .slice p3 (limbs c.od).length c3] 85)) #[.bool false, .slice none 0 0, .slice none 0 0] 25
    simpa using this
  have H0 := Lib.hid (h0.after hb0)
  have H1 := Lib.hid (h1.after hb0)
  have HB0 := Lib.hid hb0
  have BR := Lib.hid br
  obtain ⟨x0, x1, x2, x3⟩ := bx.cells4
  obtain ⟨r0, r1, r2⟩ := br.cells3
  have f0 := br.frozen 0
  have f1 := br.frozen 1
  have f2 := br.frozen 2
  have hlt := br.lt
  clear HX h0 h1 h2 h3 h hb0 br bx
  go_enter Try.func88, Try.ntmps88
  go_upto_region 1 with fail
  rw [← hW]
  clear hW
  go_wp2_with fail
  obtain ⟨e0, e1, e2⟩ := (end_box BR.out (y0 := .bool false) (y1 := .slice p0 (limbs c.num).length c0) (y2 := .slice p1 (limbs c.den).length c1)).cells3
  refine bodyPost_ret (v := .agg #[.bool false, .slice p0 (limbs c.num).length c0, .slice p1 (limbs c.den).length c1]) (by simp [results, Try.results88, go_sem, e0, e1, e2]) rfl ?_
  exact retF1_end (x := fr false c.num c.den) HB0.out BR.out (fun _ h => by cases h) (fun _ h => by cases h) (Nat.le_succ _) H0.out H1.out

set_option maxRecDepth 100000 in
set_option maxHeartbeats 2000000 in
theorem after_c (w : World) (v u : Value) (c : Ch) (q : Nat) (h : IsC w v c) (k : Sl w u (limbs q)) (hc : c.le 1000) (hq : (limbs q).length ≤ 1000) : Calls Try.prog 86 #[v, u] w (RetCh w (c.after q)) := by
  obtain ⟨l0, l1, l2, l3⟩ := hc
  obtain ⟨p0, p1, p2, p3, c0, c1, c2, c3, rfl, h0, h1, h2, h3⟩ := h.open
  obtain ⟨W0, hW⟩ : ∃ W0, W0 = (w.alloc (.cells #[.slice p0 (limbs c.num).length c0, .slice p1 (limbs c.den).length c1, .slice p2 (limbs c.on).length c2, .slice p3 (limbs c.od).length c3] 85)).alloc (.cells #[.slice none 0 0, .slice none 0 0, .slice none 0 0, .slice none 0 0] 85) := ⟨_, rfl⟩
  have hb0 : Below w.heap.size w W0 := hW ▸ held_alloc (held_alloc (Below.refl _ w))
  have bx : Box W0 w.heap.size #[.slice p0 (limbs c.num).length c0, .slice p1 (limbs c.den).length c1, .slice p2 (limbs c.on).length c2, .slice p3 (limbs c.od).length c3] 85 := hW ▸ (Box.new w _ _).alloc _
  have br : Box W0 (w.heap.size + 1) #[.slice none 0 0, .slice none 0 0, .slice none 0 0, .slice none 0 0] 85 := by
    rw [hW]
    have := Box.new (w.alloc (.cells #[.slice p0 (limbs c.num).length c0, .slice p1 (limbs c.den).length c1, .slice p2 (limbs c.on).length c2, .slice p3 (limbs c.od).length c3] 85)) #[.slice none 0 0, .slice none 0 0, .slice none 0 0, .slice none 0 0] 85
    simpa using this
  have H0 := Lib.hid (h0.after hb0)
  have H1 := Lib.hid (h1.after hb0)
  have H2 := Lib.hid (h2.after hb0)
  have H3 := Lib.hid (h3.after hb0)
  have HQ := Lib.hid (k.after hb0)
  have HB0 := Lib.hid hb0
  have BR := Lib.hid br
  have mkS : Hid (∀ w', Below W0.heap.size W0 w' → w'.cell? ⟨w.heap.size, 0, none⟩ = some (.slice p0 (limbs c.num).length c0) ∧ w'.cell? ⟨w.heap.size, 1, none⟩ = some (.slice p1 (limbs c.den).length c1) ∧ w'.cell? ⟨w.heap.size, 2, none⟩ = some (.slice p2 (limbs c.on).length c2) ∧ w'.cell? ⟨w.heap.size, 3, none⟩ = some (.slice p3 (limbs c.od).length c3)) := fun w' hb => (bx.after hb).cells4
  have hltx := bx.lt
  have m1 : (limbs (q * c.num)).length ≤ 1000000 := by have := limbs_mul_len q c.num; omega
  have m2 : (limbs (q * c.den)).length ≤ 1000000 := by have := limbs_mul_len q c.den; omega
  have HQD : Hid (Sl W0.drew u (limbs q)) := HQ.out.after (below_dr (Below.refl _ W0))
  have HD0 : Hid (Sl W0.drew (.slice p0 (limbs c.num).length c0) (limbs c.num)) := H0.out.after (below_dr (Below.refl _ W0))
  have lq : (limbs q).length ≤ 1000000 := by omega
  have l0' : (limbs c.num).length ≤ 1000000 := by omega
  have l1' : (limbs c.den).length ≤ 1000000 := by omega
  have l2' : (limbs c.on).length ≤ 1000000 := by omega
  have l3' : (limbs c.od).length ≤ 1000000 := by omega
  clear h0 h1 h2 h3 h k hb0 br bx
  go_enter Try.func86, Try.ntmps86
  go_upto_region 1 with fail
  rw [← hW]
  clear hW
  go_region_held3 (fun w' => w'.cell? ⟨w.heap.size, 0, none⟩ = some (.slice p0 (limbs c.num).length c0) ∧ w'.cell? ⟨w.heap.size, 1, none⟩ = some (.slice p1 (limbs c.den).length c1) ∧ w'.cell? ⟨w.heap.size, 2, none⟩ = some (.slice p2 (limbs c.on).length c2) ∧ w'.cell? ⟨w.heap.size, 3, none⟩ = some (.slice p3 (limbs c.od).length c3))
    (first | (refine mkS.out _ ?_; (repeat (first | with_reducible exact hk4 | with_reducible exact hk3 | with_reducible exact hk2 | with_reducible exact hk1 | with_reducible exact Below.refl _ _ | with_reducible refine below_dr ?_)); done) | (with_reducible exact keep4z (by omega) (mkS.out _ hk4)))
    (first
     | (go_at_call 68; ((with_reducible refine (times_n W0.drew u (.slice p0 (limbs c.num).length c0) q c.num HQD.out HD0.out lq l0').mono ?_); rintro e w1 ⟨v1, rfl, hv1, hb1⟩; have hk1 : Below W0.heap.size W0 w1 := below_of_drew hb1))
     | (go_at_call 75; ((with_reducible refine (plus_n w1 v1 (.slice p2 (limbs c.on).length c2) (q * c.num) c.on hv1 (H2.out.after hk1) m1 l2').mono ?_); rintro e w2 ⟨v2, rfl, hv2, hb2⟩; have hk2 : Below W0.heap.size W0 w2 := hk1.trans (hb2.mono hk1.size); obtain ⟨s1, t1, rfl, _, _⟩ := hv2.shape))
     | (go_at_call 68; ((with_reducible refine (times_n w2 u (.slice p1 (limbs c.den).length c1) q c.den (HQ.out.after hk2) (H1.out.after hk2) lq l1').mono ?_); rintro e w3 ⟨v3, rfl, hv3, hb3⟩; have hk3 : Below W0.heap.size W0 w3 := hk2.trans (hb3.mono hk2.size)))
     | (go_at_call 75; ((with_reducible refine (plus_n w3 v3 (.slice p3 (limbs c.od).length c3) (q * c.den) c.od hv3 (H3.out.after hk3) m2 l3').mono ?_); rintro e w4 ⟨v4, rfl, hv4, hb4⟩; have hk4 : Below W0.heap.size W0 w4 := hk3.trans (hb4.mono hk3.size); obtain ⟨s2, t2, rfl, _, _⟩ := hv4.shape; have BR4 := Lib.hid (BR.out.after hk4); have HS2 := Lib.hid (hv2.after (hb3.trans (hb4.mono hb3.size))); obtain ⟨r0, r1, r2, r3⟩ := BR4.out.cells4; have f0 := BR4.out.frozen 0; have f1 := BR4.out.frozen 1; have f2 := BR4.out.frozen 2; have f3 := BR4.out.frozen 3; have hlt4 := BR4.out.lt))
     | (fail))
  have HB4 := Lib.hid (HB0.out.trans (hk4.mono HB0.out.size))
  have G0 := Lib.hid (H0.out.after hk4)
  have G1 := Lib.hid (H1.out.after hk4)
  have HV4 := Lib.hid hv4
  clear hk1 hk2 hk3 hk4 hb1 hb2 hb3 hb4 hv1 hv2 hv3 hv4 mkS
  go_wp2_with fail
  obtain ⟨e0, e1, e2, e3⟩ := (set4_box BR4.out (y0 := .slice s1 (limbs (q * c.num + c.on)).length t1) (y1 := .slice s2 (limbs (q * c.den + c.od)).length t2) (y2 := .slice p0 (limbs c.num).length c0) (y3 := .slice p1 (limbs c.den).length c1)).cells4
  unfold set4 at e0 e1 e2 e3
  refine bodyPost_ret (v := .agg #[.slice s1 (limbs (q * c.num + c.on)).length t1, .slice s2 (limbs (q * c.den + c.od)).length t2, .slice p0 (limbs c.num).length c0, .slice p1 (limbs c.den).length c1]) (by simp [results, Try.results86, go_sem, e0, e1, e2, e3]) rfl ?_
  exact ⟨_, rfl, IsC.result (c := c.after q) BR4.out HS2.out HV4.out G0.out G1.out, set4_below HB4.out (Nat.le_succ _)⟩
end Go.Proofs.Ytaojdlcailpheaa

namespace Go.Proofs.Ytaojdlcailpheaa
open Go.RowKit

/-- Block l holds no data: the state of a loop, or calls that are put off. -/
def Soft (W : World) (l : Nat) : Prop := (∃ L, W.heap[l]? = some (.loop L)) ∨ ∃ d, W.heap[l]? = some (.deferred d)
theorem Soft.lt {W : World} {l : Nat} (h : Soft W l) : l < W.heap.size := by
  rcases h with ⟨L, h⟩ | ⟨d, h⟩ <;> exact (Array.getElem?_eq_some_iff.1 h).1
theorem Soft.ne_box {W : World} {l b : Nat} {cs : Array Value} {t : TypeId} {fz : Nat × Nat} (h : Soft W l) (hb : W.heap[b]? = some (.cells cs t fz)) : b ≠ l := by
  rintro rfl
  rcases h with ⟨L, h⟩ | ⟨d, h⟩ <;> rw [hb] at h <;> cases h
theorem Soft.noTag {W : World} {l : Nat} (h : Soft W l) : ∀ g, some l = some g → ¬ Tag32 W g := by
  rintro g e ⟨cs, fz, h'⟩
  injection e with e
  exact h.ne_box h' e.symm
theorem Soft.cell_ne {W : World} {l b o : Nat} {v : Value} (h : Soft W l) (hc : W.cell? ⟨b, o, none⟩ = some v) : b ≠ l := by
  rintro rfl
  rcases h with ⟨L, h⟩ | ⟨d, h⟩ <;> simp [World.cell?, h] at hc
theorem Box.soft {W W' : World} {l b : Nat} {cs : Array Value} {t : TypeId} (h : Box W b cs t) (hs : Soft W l) (hg : W.grownBy W' (some l)) : Box W' b cs t :=
  (hg.block b h.lt (by intro e; injection e with e; exact hs.ne_box h e)).trans h
theorem cell_soft {W W' : World} {l b o : Nat} {v : Value} (h : W.cell? ⟨b, o, none⟩ = some v) (hs : Soft W l) (hg : W.grownBy W' (some l)) : W'.cell? ⟨b, o, none⟩ = some v :=
  hg.cell h (by intro e; injection e with e; exact hs.cell_ne h e)
theorem putObj_grown2 (W : World) (l : Nat) (o : Obj) : W.grownBy (W.putObj l o) (some l) := grownBy_putObj' W l o
/-- Blocks from B on that hold no data are as they were. -/
def KeepSoft (B : Nat) (w W : World) : Prop := w.heap.size ≤ W.heap.size ∧ ∀ b, B ≤ b → Soft w b → W.heap[b]? = w.heap[b]?
theorem KeepSoft.refl (B : Nat) (w : World) : KeepSoft B w w := ⟨Nat.le_refl _, fun _ _ _ => rfl⟩
theorem KeepSoft.of_below {B : Nat} {w W : World} (h : Below w.heap.size w W) : KeepSoft B w W := ⟨h.size, fun b _ hs => h.block b hs.lt⟩
theorem KeepSoft.soft {B : Nat} {w W : World} (h : KeepSoft B w W) {b : Nat} (hb : B ≤ b) (hs : Soft w b) : Soft W b := by
  have := h.2 b hb hs
  rcases hs with ⟨L, h⟩ | ⟨d, h⟩
  · exact .inl ⟨L, this.trans h⟩
  · exact .inr ⟨d, this.trans h⟩
theorem KeepSoft.trans {B : Nat} {w W V : World} (h : KeepSoft B w W) (k : KeepSoft B W V) : KeepSoft B w V :=
  ⟨Nat.le_trans h.1 k.1, fun b hb hs => (k.2 b hb (h.soft hb hs)).trans (h.2 b hb hs)⟩
theorem KeepSoft.grown {B : Nat} {w W V : World} {row : Option Nat} (h : KeepSoft B w W) (hg : W.grownBy V row) (hr : ∀ g, row = some g → ¬ Soft W g) : KeepSoft B w V := by
  refine h.trans ⟨hg.size, fun b hb hs => hg.block b hs.lt ?_⟩
  intro e
  exact hr b e.symm hs
theorem KeepSoft.setCell {B : Nat} {w W : World} (h : KeepSoft B w W) {b i : Nat} {u : Value} {v : Value} (hc : W.cell? ⟨b, i, none⟩ = some v) : KeepSoft B w (W.setCell ⟨b, i, none⟩ u) := by
  refine h.trans ⟨by simp [World.setCell], fun b' _ hs => Below.heap_setCell W ⟨b, i, none⟩ u b' ?_⟩
  rintro rfl
  exact hs.cell_ne hc rfl
theorem KeepSoft.below {B : Nat} {w W V : World} (h : KeepSoft B w W) (hb : Below W.heap.size W V) : KeepSoft B w V := h.trans (.of_below hb)
/-- How the body of a round may be left. -/
def roundPost (B : Nat) (J X : World → Prop) (w2 : World) : Exit → Act → World → Prop
  | .normal, _, W3 => J W3 ∧ KeepSoft B w2 W3
  | .ret, _, W3 => X W3 ∧ KeepSoft B w2 W3
  | _, _, _ => False

theorem wpIn_range_inv {P : Program} {F : Fence} {n : Nat} {g : Operand} {ps : Array Tmp} {assign body : Code} {Q : Exit → Act → World → Prop} {a : Act} {w : World}
    (hro : F.round = none) (h1 : 1 ≤ n) {gf : Nat} {lb : Array Value} (hg : a.eval g = .func (.func gf) #[] lb) (hFg : F.fn gf) (eg : ∀ args w, (callFunc gf args).run P w = .ok (.enter gf args) w)
    (N : Nat) (J : Nat → World → Prop) (V : Nat → Array Value → World → Prop) (X : Nat → World → Prop) (hV : ∀ r args W, V r args W → args.size = ps.size)
    (hJB : ∀ r W, J r W → w.heap.size ≤ W.heap.size)
    (hJb : ∀ r W W', J r W → Below W.heap.size W W' → J r W')
    (hJl : ∀ r W W' l, w.heap.size ≤ l → J r W → Soft W l → W.grownBy W' (some l) → J r W')
    (hJ0 : J 0 w)
    (hiter : ∀ (l : Nat) (W1 : World) (J' Y : Nat → World → Prop), (∀ r W, J' r W → J r W) → (∀ r W W', J' r W → Below W.heap.size W W' → J' r W') → J' 0 W1 →
      (∀ (r : Nat) (args : Array Value) (W : World), r < N → J' r W → V r args W →
        YieldAt F (n - 1 - 1) P l args W fun e W' => (e = .returned (.bool true) ∧ J' (r + 1) W') ∨ (e = .returned (.bool false) ∧ Y r W')) →
      CallsIn F (n - 1) P gf (#[.func (.yield l) #[] #[]] ++ lb) W1 fun e W' => (∃ v, e = .returned v) ∧ (J' N W' ∨ ∃ r, r < N ∧ Y r W'))
    (A : Nat → Array Value → Act → World → World → Prop) (hA : ∀ r args a1 W w1, A r args a1 W w1 → Below W.heap.size W w1)
    (hassign : ∀ (l r : Nat) (args : Array Value) (W : World) (K : Act → World → Prop), r < N → J r W → V r args W → (∀ a1 w1, A r args a1 W w1 → K a1 w1) →
      assign.wpIn (F.inRound l) (n - 1 - 1) P (Exit.then K (fun _ _ _ => False)) { tmps := (ps.zip args).foldl (fun t (p, v) => t.setIfInBounds p v) a.tmps, defers := [] } W)
    (hbody : ∀ (l r : Nat) (args : Array Value) (W w1 w2 : World) (a1 : Act), r < N → J r W → V r args W → A r args a1 W w1 → J r w2 → Soft w1 l → l < W.heap.size → w1.grownBy w2 (some l) →
      body.wpIn (F.inRound l) (n - 1 - 1) P (roundPost w.heap.size (J (r + 1)) (X r) w2) a1 w2)
    (hdone : ∀ W, J N W → W.heap[w.heap.size]? = some (.deferred (some [])) → Q .normal { a with defers := { target := .collected w.heap.size, args := #[] } :: a.defers } W)
    (hstop : ∀ (l r : Nat) (W3 W : World), r < N → X r W3 → w.heap.size < l → Soft W3 l → W3.grownBy W (some l) → W.heap[w.heap.size]? = some (.deferred (some [])) →
      Code.ret.wpIn F n P Q { a with defers := { target := .collected w.heap.size, args := #[] } :: a.defers } W) :
    (Code.rangeFunc g ps assign body).wpIn F n P Q a w := by
  refine wpIn_rangeFunc ?_
  intro fn hfn
  rw [hro]
  obtain ⟨rec, hrec⟩ : ∃ rec : LoopState → Option Code → Loop, rec = fun st pe => { state := st, pending := pe, fn, tmps := a.tmps, params := ps, assign, body, defers := w.heap.size } := ⟨_, rfl⟩
  obtain ⟨W1, hW1⟩ : ∃ W1, W1 = (w.alloc (.deferred (some []))).alloc (.loop (rec .ready none)) := ⟨_, rfl⟩
  have hw1 : Below w.heap.size w W1 := hW1 ▸ ((Below.refl _ w).alloc (Nat.le_refl _) _).alloc (by simp) _
  have hl1 : W1.heap[w.heap.size + 1]? = some (.loop (rec .ready none)) := by
    rw [hW1]; have := heap_alloc_new (w.alloc (.deferred (some []))) (.loop (rec .ready none)); rwa [World.size_alloc] at this
  have hd1 : W1.heap[w.heap.size]? = some (.deferred (some [])) := by
    rw [hW1]; exact (Below.heap_alloc _ _ _ (by simp)).trans (heap_alloc_new w _)
  have hs1 : W1.heap.size = w.heap.size + 2 := by rw [hW1]; simp
  refine ⟨w.heap.size + 1, [{ target := .collected w.heap.size, args := #[] }], W1, { target := .fn (.func gf) lb, args := #[.func (.yield (w.heap.size + 1)) #[] #[]] }, W1, gf, #[.func (.yield (w.heap.size + 1)) #[] #[]] ++ lb, W1, ?_, ?_, ?_, ?_, fun _ => h1, ?_⟩
  · rw [hW1, hrec]; exact run_enterLoop_outer _ _ _ _ _
  · simp only [resolve, hg]
    simp [go_sem]
  · intro f' hf'; simp [Target.leads] at hf'; subst hf'; exact hFg
  · simp [invoke, go_sem, eg]
  · refine (hiter (w.heap.size + 1) W1 (fun r W => J r W ∧ W.heap[w.heap.size + 1]? = some (.loop (rec .ready none)) ∧ W.heap[w.heap.size]? = some (.deferred (some [])))
      (fun r W' => ∃ W3, X r W3 ∧ W3.heap[w.heap.size + 1]? = some (.loop (rec .busy none)) ∧ W3.heap[w.heap.size]? = some (.deferred (some [])) ∧ W' = W3.putObj (w.heap.size + 1) (.loop (rec .done (some .ret)))) (fun r W h => h.1) ?_ ⟨hJb _ _ _ hJ0 hw1, hl1, hd1⟩ ?_).mono ?_
    · rintro r W W' ⟨h, hl, hd⟩ hb
      exact ⟨hJb _ _ _ h hb, (hb.block _ (Array.getElem?_eq_some_iff.1 hl).1).trans hl, (hb.block _ (Array.getElem?_eq_some_iff.1 hd).1).trans hd⟩
    · -- a round
      rintro r args W hr ⟨hj, hl, hd⟩ hv
      have hsz := hJB _ _ hj
      have hlt := (Array.getElem?_eq_some_iff.1 hl).1
      have hy := run_yield (P := P) (args := args) hl (by rw [hrec]; exact hV _ _ _ hv)
      rw [hrec] at hy
      refine ⟨fn, _, assign, body, hy, roundIn_of_wpIn hfn (hassign _ r args W _ hr hj hv ?_)⟩
      intro a1 w1 ha
      have hbw1 := hA _ _ _ _ _ ha
      have hlw1 : w1.heap[w.heap.size + 1]? = some (.loop (rec .ready none)) := (hbw1.block _ (by omega)).trans hl
      have hdw1 : w1.heap[w.heap.size]? = some (.deferred (some [])) := (hbw1.block _ (by omega)).trans hd
      have hsw1 := hbw1.size
      have hbr := run_beginRound (P := P) hlw1 (by rw [hrec])
      refine ⟨_, hbr, ?_⟩
      have hrb : ({ rec .ready none with state := .busy } : Loop) = rec .busy none := by rw [hrec]
      rw [hrb]
      have hl2 : (w1.putObj (w.heap.size + 1) (.loop (rec .busy none))).heap[w.heap.size + 1]? = some (.loop (rec .busy none)) := World.putObj_heap_same (by omega)
      have hd2 : (w1.putObj (w.heap.size + 1) (.loop (rec .busy none))).heap[w.heap.size]? = some (.deferred (some [])) := (World.putObj_heap_other (by omega)).trans hdw1
      have hj2 : J r (w1.putObj (w.heap.size + 1) (.loop (rec .busy none))) := hJl _ _ _ _ (by omega) (hJb _ _ _ hj hbw1) (.inl ⟨_, hlw1⟩) (putObj_grown2 _ _ _)
      refine wpIn_mono (hbody _ r args W w1 _ a1 hr hj hv ha hj2 (.inl ⟨_, hlw1⟩) (by omega) (putObj_grown2 _ _ _)) ?_
      rintro e a3 W3 hp
      cases e with
      | normal =>
        obtain ⟨hc, hk3⟩ := hp
        have hl3 : W3.heap[w.heap.size + 1]? = some (.loop (rec .busy none)) := (hk3.2 _ (by omega) (.inl ⟨_, hl2⟩)).trans hl2
        have hd3 : W3.heap[w.heap.size]? = some (.deferred (some [])) := (hk3.2 _ (by omega) (.inr ⟨_, hd2⟩)).trans hd2
        have her := run_endRound (P := P) none hl3
        refine ⟨_, _, her, .inl ⟨rfl, ?_, ?_, ?_⟩⟩
        · exact hJl _ _ _ _ (by omega) hc (.inl ⟨_, hl3⟩) (putObj_grown2 _ _ _)
        · have hre : ({ rec .busy none with state := if (none : Option Code).isNone then .ready else .done, pending := none } : Loop) = rec .ready none := by rw [hrec]; rfl
          rw [hre]
          exact World.putObj_heap_same (Array.getElem?_eq_some_iff.1 hl3).1
        · exact (World.putObj_heap_other (by omega)).trans hd3
      | ret =>
        obtain ⟨hx, hk3⟩ := hp
        have hl3 : W3.heap[w.heap.size + 1]? = some (.loop (rec .busy none)) := (hk3.2 _ (by omega) (.inl ⟨_, hl2⟩)).trans hl2
        have hd3 : W3.heap[w.heap.size]? = some (.deferred (some [])) := (hk3.2 _ (by omega) (.inr ⟨_, hd2⟩)).trans hd2
        have her := run_endRound (P := P) (some .ret) hl3
        refine ⟨_, _, her, .inr ⟨rfl, W3, hx, hl3, hd3, ?_⟩⟩
        rw [hrec]; rfl
      | exit id => exact hp.elim
      | goto t => exact hp.elim
      | panic ch => exact hp.elim
      | outgrown => exact hp.elim
    · -- behind the iterator
      rintro e W2 ⟨⟨v, rfl⟩, (⟨hj, hl, hd⟩ | ⟨r, hr, W3, hx, hl3, hd3, rfl⟩)⟩
      · have hel := run_endLoop (P := P) hl (by rw [hrec]; simp)
        have hpe : (rec .ready none).pending = none := by rw [hrec]
        rw [hpe] at hel
        exact ⟨none, _, hel, hdone _ (hJl _ _ _ _ (by omega) hj (.inl ⟨_, hl⟩) (putObj_grown2 _ _ _)) ((World.putObj_heap_other (by omega)).trans hd)⟩
      · have hsl := (Array.getElem?_eq_some_iff.1 hl3).1
        have hl4 : (W3.putObj (w.heap.size + 1) (.loop (rec .done (some .ret)))).heap[w.heap.size + 1]? = some (.loop (rec .done (some .ret))) := World.putObj_heap_same hsl
        have hel := run_endLoop (P := P) hl4 (by rw [hrec]; simp)
        have hpe : (rec .done (some .ret)).pending = some .ret := by rw [hrec]
        rw [hpe] at hel
        refine ⟨some .ret, _, hel, hstop (w.heap.size + 1) r W3 _ hr hx (by omega) (.inl ⟨_, hl3⟩) ?_ ?_⟩
        · refine ⟨rfl, rfl, rfl, by simp, fun j hj hne => ?_⟩
          rw [World.putObj_heap_other (fun e => hne (by rw [e])), World.putObj_heap_other (fun e => hne (by rw [e]))]
        · rw [World.putObj_heap_other (by omega), World.putObj_heap_other (by omega)]
          exact hd3
end Go.Proofs.Ytaojdlcailpheaa

namespace Go.Proofs.Ytaojdlcailpheaa
open Go.RowKit

/-- Each row of limbs is as it was. -/
def Limb (W W' : World) : Prop := W.heap.size ≤ W'.heap.size ∧ ∀ b, Tag32 W b → W'.heap[b]? = W.heap[b]?
theorem Tag32.lim {W W' : World} {b : Nat} (h : Tag32 W b) (k : Limb W W') : Tag32 W' b := by
  have := k.2 b h
  obtain ⟨cs, fz, h⟩ := h
  exact ⟨cs, fz, this.trans h⟩
theorem Limb.refl (W : World) : Limb W W := ⟨Nat.le_refl _, fun _ _ => rfl⟩
theorem Limb.trans {W W' V : World} (h : Limb W W') (k : Limb W' V) : Limb W V := ⟨Nat.le_trans h.1 k.1, fun b hb => (k.2 b (hb.lim h)).trans (h.2 b hb)⟩
theorem Limb.of_below {W W' : World} (h : Below W.heap.size W W') : Limb W W' :=
  ⟨h.size, fun b hb => h.block b (by obtain ⟨cs, fz, hb⟩ := hb; exact (Array.getElem?_eq_some_iff.1 hb).1)⟩
theorem Limb.of_grown {W W' : World} {row : Option Nat} (h : W.grownBy W' row) (hr : ∀ g, row = some g → ¬ Tag32 W g) : Limb W W' :=
  ⟨h.size, fun b hb => h.block b (by obtain ⟨cs, fz, hb⟩ := hb; exact (Array.getElem?_eq_some_iff.1 hb).1) (fun e => hr b e.symm hb)⟩
theorem Sl.lim {W W' : World} {v : Value} {l : List Nat} (h : Sl W v l) (k : Limb W W') : Sl W' v l := by
  obtain ⟨h0, a, cap, h1, h2, h3, h5, h6⟩ := h
  refine ⟨h0, a, cap, h1, h2, h3, ⟨h5.1, fun hl b off ha => (h5.2 hl b off ha).lim k⟩, fun hl => ?_⟩
  obtain ⟨b, off, ha, hlt, hc⟩ := h6 hl
  exact ⟨b, off, ha, Nat.lt_of_lt_of_le hlt k.1, fun i hi => (World.cell?_of_block (k.2 b (h5.2 hl b off ha))).trans (hc i hi)⟩
/-- How the body of a round may be left. -/
def roundPostL (B : Nat) (J X : World → Prop) (w2 : World) : Exit → Act → World → Prop
  | .normal, _, W3 => J W3 ∧ KeepSoft B w2 W3 ∧ Limb w2 W3
  | .ret, _, W3 => X W3 ∧ KeepSoft B w2 W3
  | _, _, _ => False

theorem wpIn_range_limb {P : Program} {F : Fence} {n : Nat} {g : Operand} {ps : Array Tmp} {assign body : Code} {Q : Exit → Act → World → Prop} {a : Act} {w : World}
    (hro : F.round = none) (h1 : 1 ≤ n) {gf : Nat} {lb : Array Value} (hg : a.eval g = .func (.func gf) #[] lb) (hFg : F.fn gf) (eg : ∀ args w, (callFunc gf args).run P w = .ok (.enter gf args) w)
    (N : Nat) (J : Nat → World → Prop) (V : Nat → Array Value → World → Prop) (X : Nat → World → Prop) (hV : ∀ r args W, V r args W → args.size = ps.size)
    (hJB : ∀ r W, J r W → w.heap.size ≤ W.heap.size)
    (hJb : ∀ r W W', J r W → Below W.heap.size W W' → J r W')
    (hJl : ∀ r W W' l, w.heap.size ≤ l → J r W → Soft W l → W.grownBy W' (some l) → J r W')
    (hJ0 : J 0 w)
    (hiter : ∀ (l : Nat) (W1 : World) (J' Y : Nat → World → Prop), (∀ r W, J' r W → J r W) → (∀ r W W', J' r W → Below W.heap.size W W' → J' r W') → J' 0 W1 →
      (∀ (r : Nat) (args : Array Value) (W : World), r < N → J' r W → V r args W →
        YieldAt F (n - 1 - 1) P l args W fun e W' => (e = .returned (.bool true) ∧ J' (r + 1) W' ∧ Limb W W') ∨ (e = .returned (.bool false) ∧ Y r W')) →
      CallsIn F (n - 1) P gf (#[.func (.yield l) #[] #[]] ++ lb) W1 fun e W' => (∃ v, e = .returned v) ∧ (J' N W' ∨ ∃ r, r < N ∧ Y r W'))
    (A : Nat → Array Value → Act → World → World → Prop) (hA : ∀ r args a1 W w1, A r args a1 W w1 → Below W.heap.size W w1)
    (hassign : ∀ (l r : Nat) (args : Array Value) (W : World) (K : Act → World → Prop), r < N → J r W → V r args W → (∀ a1 w1, A r args a1 W w1 → K a1 w1) →
      assign.wpIn (F.inRound l) (n - 1 - 1) P (Exit.then K (fun _ _ _ => False)) { tmps := (ps.zip args).foldl (fun t (p, v) => t.setIfInBounds p v) a.tmps, defers := [] } W)
    (hbody : ∀ (l r : Nat) (args : Array Value) (W w1 w2 : World) (a1 : Act), r < N → J r W → V r args W → A r args a1 W w1 → J r w2 → Soft w1 l → l < W.heap.size → w1.grownBy w2 (some l) →
      body.wpIn (F.inRound l) (n - 1 - 1) P (roundPostL w.heap.size (J (r + 1)) (X r) w2) a1 w2)
    (hdone : ∀ W, J N W → W.heap[w.heap.size]? = some (.deferred (some [])) → Q .normal { a with defers := { target := .collected w.heap.size, args := #[] } :: a.defers } W)
    (hstop : ∀ (l r : Nat) (W3 W : World), r < N → X r W3 → w.heap.size < l → Soft W3 l → W3.grownBy W (some l) → W.heap[w.heap.size]? = some (.deferred (some [])) →
      Code.ret.wpIn F n P Q { a with defers := { target := .collected w.heap.size, args := #[] } :: a.defers } W) :
    (Code.rangeFunc g ps assign body).wpIn F n P Q a w := by
  refine wpIn_rangeFunc ?_
  intro fn hfn
  rw [hro]
  obtain ⟨rec, hrec⟩ : ∃ rec : LoopState → Option Code → Loop, rec = fun st pe => { state := st, pending := pe, fn, tmps := a.tmps, params := ps, assign, body, defers := w.heap.size } := ⟨_, rfl⟩
  obtain ⟨W1, hW1⟩ : ∃ W1, W1 = (w.alloc (.deferred (some []))).alloc (.loop (rec .ready none)) := ⟨_, rfl⟩
  have hw1 : Below w.heap.size w W1 := hW1 ▸ ((Below.refl _ w).alloc (Nat.le_refl _) _).alloc (by simp) _
  have hl1 : W1.heap[w.heap.size + 1]? = some (.loop (rec .ready none)) := by
    rw [hW1]; have := heap_alloc_new (w.alloc (.deferred (some []))) (.loop (rec .ready none)); rwa [World.size_alloc] at this
  have hd1 : W1.heap[w.heap.size]? = some (.deferred (some [])) := by
    rw [hW1]; exact (Below.heap_alloc _ _ _ (by simp)).trans (heap_alloc_new w _)
  have hs1 : W1.heap.size = w.heap.size + 2 := by rw [hW1]; simp
  refine ⟨w.heap.size + 1, [{ target := .collected w.heap.size, args := #[] }], W1, { target := .fn (.func gf) lb, args := #[.func (.yield (w.heap.size + 1)) #[] #[]] }, W1, gf, #[.func (.yield (w.heap.size + 1)) #[] #[]] ++ lb, W1, ?_, ?_, ?_, ?_, fun _ => h1, ?_⟩
  · rw [hW1, hrec]; exact run_enterLoop_outer _ _ _ _ _
  · simp only [resolve, hg]
    simp [go_sem]
  · intro f' hf'; simp [Target.leads] at hf'; subst hf'; exact hFg
  · simp [invoke, go_sem, eg]
  · refine (hiter (w.heap.size + 1) W1 (fun r W => J r W ∧ W.heap[w.heap.size + 1]? = some (.loop (rec .ready none)) ∧ W.heap[w.heap.size]? = some (.deferred (some [])))
      (fun r W' => ∃ W3, X r W3 ∧ W3.heap[w.heap.size + 1]? = some (.loop (rec .busy none)) ∧ W3.heap[w.heap.size]? = some (.deferred (some [])) ∧ W' = W3.putObj (w.heap.size + 1) (.loop (rec .done (some .ret)))) (fun r W h => h.1) ?_ ⟨hJb _ _ _ hJ0 hw1, hl1, hd1⟩ ?_).mono ?_
    · rintro r W W' ⟨h, hl, hd⟩ hb
      exact ⟨hJb _ _ _ h hb, (hb.block _ (Array.getElem?_eq_some_iff.1 hl).1).trans hl, (hb.block _ (Array.getElem?_eq_some_iff.1 hd).1).trans hd⟩
    · -- a round
      rintro r args W hr ⟨hj, hl, hd⟩ hv
      have hsz := hJB _ _ hj
      have hlt := (Array.getElem?_eq_some_iff.1 hl).1
      have hy := run_yield (P := P) (args := args) hl (by rw [hrec]; exact hV _ _ _ hv)
      rw [hrec] at hy
      refine ⟨fn, _, assign, body, hy, roundIn_of_wpIn hfn (hassign _ r args W _ hr hj hv ?_)⟩
      intro a1 w1 ha
      have hbw1 := hA _ _ _ _ _ ha
      have hlw1 : w1.heap[w.heap.size + 1]? = some (.loop (rec .ready none)) := (hbw1.block _ (by omega)).trans hl
      have hdw1 : w1.heap[w.heap.size]? = some (.deferred (some [])) := (hbw1.block _ (by omega)).trans hd
      have hsw1 := hbw1.size
      have hbr := run_beginRound (P := P) hlw1 (by rw [hrec])
      refine ⟨_, hbr, ?_⟩
      have hrb : ({ rec .ready none with state := .busy } : Loop) = rec .busy none := by rw [hrec]
      rw [hrb]
      have hl2 : (w1.putObj (w.heap.size + 1) (.loop (rec .busy none))).heap[w.heap.size + 1]? = some (.loop (rec .busy none)) := World.putObj_heap_same (by omega)
      have hd2 : (w1.putObj (w.heap.size + 1) (.loop (rec .busy none))).heap[w.heap.size]? = some (.deferred (some [])) := (World.putObj_heap_other (by omega)).trans hdw1
      have hj2 : J r (w1.putObj (w.heap.size + 1) (.loop (rec .busy none))) := hJl _ _ _ _ (by omega) (hJb _ _ _ hj hbw1) (.inl ⟨_, hlw1⟩) (putObj_grown2 _ _ _)
      refine wpIn_mono (hbody _ r args W w1 _ a1 hr hj hv ha hj2 (.inl ⟨_, hlw1⟩) (by omega) (putObj_grown2 _ _ _)) ?_
      rintro e a3 W3 hp
      cases e with
      | normal =>
        obtain ⟨hc, hk3, hlim⟩ := hp
        have hl3 : W3.heap[w.heap.size + 1]? = some (.loop (rec .busy none)) := (hk3.2 _ (by omega) (.inl ⟨_, hl2⟩)).trans hl2
        have hd3 : W3.heap[w.heap.size]? = some (.deferred (some [])) := (hk3.2 _ (by omega) (.inr ⟨_, hd2⟩)).trans hd2
        have her := run_endRound (P := P) none hl3
        refine ⟨_, _, her, .inl ⟨rfl, ⟨?_, ?_, ?_⟩, (((Limb.of_below hbw1).trans (Limb.of_grown (putObj_grown2 _ _ _) (Soft.noTag (.inl ⟨_, hlw1⟩)))).trans hlim).trans (Limb.of_grown (putObj_grown2 _ _ _) (Soft.noTag (.inl ⟨_, hl3⟩)))⟩⟩
        · exact hJl _ _ _ _ (by omega) hc (.inl ⟨_, hl3⟩) (putObj_grown2 _ _ _)
        · have hre : ({ rec .busy none with state := if (none : Option Code).isNone then .ready else .done, pending := none } : Loop) = rec .ready none := by rw [hrec]; rfl
          rw [hre]
          exact World.putObj_heap_same (Array.getElem?_eq_some_iff.1 hl3).1
        · exact (World.putObj_heap_other (by omega)).trans hd3
      | ret =>
        obtain ⟨hx, hk3⟩ := hp
        have hl3 : W3.heap[w.heap.size + 1]? = some (.loop (rec .busy none)) := (hk3.2 _ (by omega) (.inl ⟨_, hl2⟩)).trans hl2
        have hd3 : W3.heap[w.heap.size]? = some (.deferred (some [])) := (hk3.2 _ (by omega) (.inr ⟨_, hd2⟩)).trans hd2
        have her := run_endRound (P := P) (some .ret) hl3
        refine ⟨_, _, her, .inr ⟨rfl, W3, hx, hl3, hd3, ?_⟩⟩
        rw [hrec]; rfl
      | exit id => exact hp.elim
      | goto t => exact hp.elim
      | panic ch => exact hp.elim
      | outgrown => exact hp.elim
    · -- behind the iterator
      rintro e W2 ⟨⟨v, rfl⟩, (⟨hj, hl, hd⟩ | ⟨r, hr, W3, hx, hl3, hd3, rfl⟩)⟩
      · have hel := run_endLoop (P := P) hl (by rw [hrec]; simp)
        have hpe : (rec .ready none).pending = none := by rw [hrec]
        rw [hpe] at hel
        exact ⟨none, _, hel, hdone _ (hJl _ _ _ _ (by omega) hj (.inl ⟨_, hl⟩) (putObj_grown2 _ _ _)) ((World.putObj_heap_other (by omega)).trans hd)⟩
      · have hsl := (Array.getElem?_eq_some_iff.1 hl3).1
        have hl4 : (W3.putObj (w.heap.size + 1) (.loop (rec .done (some .ret)))).heap[w.heap.size + 1]? = some (.loop (rec .done (some .ret))) := World.putObj_heap_same hsl
        have hel := run_endLoop (P := P) hl4 (by rw [hrec]; simp)
        have hpe : (rec .done (some .ret)).pending = some .ret := by rw [hrec]
        rw [hpe] at hel
        refine ⟨some .ret, _, hel, hstop (w.heap.size + 1) r W3 _ hr hx (by omega) (.inl ⟨_, hl3⟩) ?_ ?_⟩
        · refine ⟨rfl, rfl, rfl, by simp, fun j hj hne => ?_⟩
          rw [World.putObj_heap_other (fun e => hne (by rw [e])), World.putObj_heap_other (fun e => hne (by rw [e]))]
        · rw [World.putObj_heap_other (by omega), World.putObj_heap_other (by omega)]
          exact hd3
end Go.Proofs.Ytaojdlcailpheaa
