/- Walks of package tails: spreadOf.
   Walks of package tails: the part of exactly k failures. -/
import Derived.Test.YtebmegodeglobaaK10
import Derived.Deep.DeepCutAuto
import Derived.Laws.EntriesVeiled
set_option linter.unusedVariables false
namespace Go.Proofs.Ytebmegodeglobaa
open Go.RowKit

theorem heap_alloc_push (w : World) (o : Obj) : (w.alloc o).heap = w.heap.push o := rfl
theorem four1 {w : World} {o1 o2 o3 o4 : Obj} {B : Nat} (h : w.heap.size = B) : ((((w.alloc o1).alloc o2).alloc o3).alloc o4).heap[B]? = some o1 := by
  subst h
  rw [Below.heap_alloc _ _ _ (by simp <;> omega), Below.heap_alloc _ _ _ (by simp <;> omega), Below.heap_alloc _ _ _ (by simp)]
  exact heap_alloc_new w o1
theorem four2 {w : World} {o1 o2 o3 o4 : Obj} {B : Nat} (h : w.heap.size = B) : ((((w.alloc o1).alloc o2).alloc o3).alloc o4).heap[B + 1]? = some o2 := by
  subst h
  rw [Below.heap_alloc _ _ _ (by simp <;> omega), Below.heap_alloc _ _ _ (by simp)]
  have := heap_alloc_new (w.alloc o1) o2
  rwa [World.size_alloc] at this
theorem four3 {w : World} {o1 o2 o3 o4 : Obj} {B : Nat} (h : w.heap.size = B) : ((((w.alloc o1).alloc o2).alloc o3).alloc o4).heap[B + 1 + 1]? = some o3 := by
  subst h
  rw [Below.heap_alloc _ _ _ (by simp)]
  have := heap_alloc_new ((w.alloc o1).alloc o2) o3
  rwa [World.size_alloc, World.size_alloc] at this
theorem four4 {w : World} {o1 o2 o3 o4 : Obj} {B : Nat} (h : w.heap.size = B) : ((((w.alloc o1).alloc o2).alloc o3).alloc o4).heap[B + 1 + 1 + 1]? = some o4 := by
  subst h
  have := heap_alloc_new (((w.alloc o1).alloc o2).alloc o3) o4
  rwa [World.size_alloc, World.size_alloc, World.size_alloc] at this
theorem VarF.four {w0 w : World} {N : Nat} {a : Nat} {va : Value} {s : Nat} (hA : Sl w0 va (limbs a)) (hb : Below w0.heap.size w0 w) (h1 : w.heap[N]? = some (.cells #[.bool false, va, .slice (some ⟨s, 0, none⟩) 1 1] 26 (0, 0))) (h2 : w.heap[s]? = some (.cells #[.int .u32 1] 95 (0, 0))) : VarF w.drew N (Wh a) :=
  VarF.drew (VarF.lit (hA.after hb) rfl h1 h2)
/-- The closure's three variables. -/
structure Part (w : World) (c2 c9 c10 : Nat) (n a c : Nat) : Prop where
  hn : w.cell? ⟨c2, 0, none⟩ = some (.int .i64 (n : Int))
  hf : ∃ u, w.cell? ⟨c9, 0, none⟩ = some u ∧ SlF w u (pows a n)
  hp : ∃ u, w.cell? ⟨c10, 0, none⟩ = some u ∧ SlF w u (pows c n)
theorem Part.after {w w' : World} {c2 c9 c10 n a c : Nat} (h : Part w c2 c9 c10 n a c) (hb : Below w.heap.size w w') : Part w' c2 c9 c10 n a c := by
  obtain ⟨h1, ⟨u, h2, h3⟩, ⟨u', h4, h5⟩⟩ := h
  exact ⟨keep_cell hb h1, ⟨u, keep_cell hb h2, h3.after hb⟩, ⟨u', keep_cell hb h4, h5.after hb⟩⟩
/-- The spread of n trials, a and c the parts of a failure and a success. -/
def IsSp (w : World) (v : Value) (n a c : Nat) : Prop := ∃ va vb c2 c9 c10,
  v = .agg #[.int .i64 (n : Int), .bool false, va, vb, .func (.func 51) #[] #[.pointer (some ⟨c2, 0, none⟩), .pointer (some ⟨c9, 0, none⟩), .pointer (some ⟨c10, 0, none⟩)]] ∧
  Sl w va (limbs ((a + c) ^ n)) ∧ Sl w vb (limbs 1) ∧ Part w c2 c9 c10 n a c
theorem IsSp.after {w w' : World} {v : Value} {n a c : Nat} (h : IsSp w v n a c) (hb : Below w.heap.size w w') : IsSp w' v n a c := by
  obtain ⟨va, vb, c2, c9, c10, e, h1, h2, h3⟩ := h
  exact ⟨va, vb, c2, c9, c10, e, h1.after hb, h2.after hb, h3.after hb⟩

/-- One store into the result struct leaves what else is read. -/
theorem set_step {w : World} {R i : Nat} {cs : Array Value} {t : TypeId} (hR : Box w R cs t) (hi : i < cs.size) (hn : NoU cs) (h0 : ∀ b, cs[0]? ≠ some (.bool b)) (u : Value) :
    (∀ v l, Sl w v l → Sl (w.setCell ⟨R, i, none⟩ u) v l) ∧ (∀ v xs, 0 < xs.length → SlF w v xs → SlF (w.setCell ⟨R, i, none⟩ u) v xs) ∧ (∀ b j, b ≠ R → (w.setCell ⟨R, i, none⟩ u).cell? ⟨b, j, none⟩ = w.cell? ⟨b, j, none⟩) := by
  have hc : w.cell? ⟨R, i, none⟩ = some cs[i] := by rw [hR.cell, Array.getElem?_eq_getElem hi]
  have hu : ∀ x, cs[i] ≠ .int .u32 x := fun x e => hn i x (by rw [Array.getElem?_eq_getElem hi, e])
  have k : ∀ b j, b ≠ R → (w.setCell ⟨R, i, none⟩ u).cell? ⟨b, j, none⟩ = w.cell? ⟨b, j, none⟩ := fun b j hb => World.cell?_setCell_other w ⟨R, i, none⟩ ⟨b, j, none⟩ u (fun e => hb (by injection e with e1; exact e1.symm))
  refine ⟨fun v l h => h.setN hc hu u, fun v xs hp h => ?_, k⟩
  obtain ⟨g, cap, h1, h2, h3, h4⟩ := h
  have hne : g ≠ R := by
    rintro rfl
    obtain ⟨va, vb, e0, _⟩ := h4 0 xs[0] (List.getElem?_eq_getElem hp)
    rw [Nat.zero_mul, hR.cell] at e0
    exact h0 _ e0
  refine ⟨g, cap, h1, h2, h3, fun j x hx => ?_⟩
  obtain ⟨va, vb, e0, e1, e2, e3, e4⟩ := h4 j x hx
  exact ⟨va, vb, (k _ _ hne).trans e0, (k _ _ hne).trans e1, (k _ _ hne).trans e2, e3.setN hc hu u, e4.setN hc hu u⟩
theorem NoU.five {a b c d e : Value} (ha : ∀ x, a ≠ .int .u32 x) (hb : ∀ x, b ≠ .int .u32 x) (hc : ∀ x, c ≠ .int .u32 x) (hd : ∀ x, d ≠ .int .u32 x) (he : ∀ x, e ≠ .int .u32 x) : NoU #[a, b, c, d, e] := by
  intro i x
  match i with
  | 0 => simpa using ha x
  | 1 => simpa using hb x
  | 2 => simpa using hc x
  | 3 => simpa using hd x
  | 4 => simpa using he x
  | k + 5 => simp
theorem spread_end {w : World} {R : Nat} {z : Int} {p q : Option Addr} {l1 c1 l2 c2 : Nat} {f : Value} {t : TypeId} (hR : Box w R #[.int .i64 0, .bool false, .slice none 0 0, .slice none 0 0, .nilFunc] t) (b : Bool) :
    (∀ v l, Sl w v l → Sl (((((w.setCell ⟨R, 0, none⟩ (.int .i64 z)).setCell ⟨R, 1, none⟩ (.bool b)).setCell ⟨R, 2, none⟩ (.slice p l1 c1)).setCell ⟨R, 3, none⟩ (.slice q l2 c2)).setCell ⟨R, 4, none⟩ f) v l) ∧
    (∀ v xs, 0 < xs.length → SlF w v xs → SlF (((((w.setCell ⟨R, 0, none⟩ (.int .i64 z)).setCell ⟨R, 1, none⟩ (.bool b)).setCell ⟨R, 2, none⟩ (.slice p l1 c1)).setCell ⟨R, 3, none⟩ (.slice q l2 c2)).setCell ⟨R, 4, none⟩ f) v xs) ∧
    (∀ g j, g ≠ R → (((((w.setCell ⟨R, 0, none⟩ (.int .i64 z)).setCell ⟨R, 1, none⟩ (.bool b)).setCell ⟨R, 2, none⟩ (.slice p l1 c1)).setCell ⟨R, 3, none⟩ (.slice q l2 c2)).setCell ⟨R, 4, none⟩ f).cell? ⟨g, j, none⟩ = w.cell? ⟨g, j, none⟩) := by
  have nb : ∀ (z : Int) (b : Bool) x, Value.bool b ≠ .int .u32 x := fun _ _ _ h => by cases h
  have ns : ∀ (p : Option Addr) (n c : Nat) x, Value.slice p n c ≠ .int .u32 x := fun _ _ _ _ h => by cases h
  have ni : ∀ (z : Int) x, Value.int .i64 z ≠ .int .u32 x := fun _ _ h => by cases h
  have nf : ∀ x, Value.nilFunc ≠ .int .u32 x := fun _ h => by cases h
  have r1 := hR.set 0 (.int .i64 z)
  have r2 := r1.set 1 (.bool b)
  have r3 := r2.set 2 (.slice p l1 c1)
  have r4 := r3.set 3 (.slice q l2 c2)
  obtain ⟨a1, b1, d1⟩ := set_step hR (i := 0) (by simp) (NoU.five (ni _) (nb 0 _) (ns _ _ _) (ns _ _ _) nf) (by simp) (.int .i64 z)
  obtain ⟨a2, b2, d2⟩ := set_step r1 (i := 1) (by simp) (by simpa using NoU.five (ni _) (nb 0 _) (ns _ _ _) (ns _ _ _) nf) (by simp) (.bool b)
  obtain ⟨a3, b3, d3⟩ := set_step r2 (i := 2) (by simp) (by simpa using NoU.five (ni _) (nb 0 _) (ns _ _ _) (ns _ _ _) nf) (by simp) (.slice p l1 c1)
  obtain ⟨a4, b4, d4⟩ := set_step r3 (i := 3) (by simp) (by simpa using NoU.five (ni _) (nb 0 _) (ns _ _ _) (ns _ _ _) nf) (by simp) (.slice q l2 c2)
  obtain ⟨a5, b5, d5⟩ := set_step r4 (i := 4) (by simp) (by simpa using NoU.five (ni _) (nb 0 _) (ns _ _ _) (ns _ _ _) nf) (by simp) f
  exact ⟨fun v l h => a5 _ _ (a4 _ _ (a3 _ _ (a2 _ _ (a1 _ _ h)))), fun v xs hp h => b5 _ _ hp (b4 _ _ hp (b3 _ _ hp (b2 _ _ hp (b1 _ _ hp h)))), fun g j hg => (d5 _ _ hg).trans ((d4 _ _ hg).trans ((d3 _ _ hg).trans ((d2 _ _ hg).trans (d1 _ _ hg))))⟩

theorem spread_box {w : World} {R : Nat} {y0 y1 y2 y3 y4 x0 x1 x2 x3 x4 : Value} {t : TypeId} (hR : Box w R #[x0, x1, x2, x3, x4] t) :
    Box (((((w.setCell ⟨R, 0, none⟩ y0).setCell ⟨R, 1, none⟩ y1).setCell ⟨R, 2, none⟩ y2).setCell ⟨R, 3, none⟩ y3).setCell ⟨R, 4, none⟩ y4) R #[y0, y1, y2, y3, y4] t := by
  have := ((((hR.set 0 y0).set 1 y1).set 2 y2).set 3 y3).set 4 y4
  simpa using this
theorem spread_below {B : Nat} {w w5 : World} {R : Nat} {y0 y1 y2 y3 y4 : Value} (h : Below B w w5) (hR : B ≤ R) :
    Below B w (((((w5.setCell ⟨R, 0, none⟩ y0).setCell ⟨R, 1, none⟩ y1).setCell ⟨R, 2, none⟩ y2).setCell ⟨R, 3, none⟩ y3).setCell ⟨R, 4, none⟩ y4) :=
  ((((h.setCell hR _).setCell hR _).setCell hR _).setCell hR _).setCell hR _
theorem Box.cells5 {w : World} {R : Nat} {y0 y1 y2 y3 y4 : Value} {t : TypeId} (h : Box w R #[y0, y1, y2, y3, y4] t) : w.cell? ⟨R, 0, none⟩ = some y0 ∧ w.cell? ⟨R, 1, none⟩ = some y1 ∧ w.cell? ⟨R, 2, none⟩ = some y2 ∧ w.cell? ⟨R, 3, none⟩ = some y3 ∧ w.cell? ⟨R, 4, none⟩ = some y4 :=
  ⟨h.cell 0, h.cell 1, h.cell 2, h.cell 3, h.cell 4⟩

set_option maxRecDepth 100000 in
set_option maxHeartbeats 16000000 in
theorem spreadOf_t (w : World) (v : Value) (n a b : Nat) (h : IsF w v (fr false a b)) (hab : a ≤ b) (hb0 : 0 < b) (hb1 : b ≤ 1000) (hn : n ≤ 64) :
    Calls Try.prog 33 #[.int .i64 (n : Int), v] w fun e w' => ∃ u, e = .returned u ∧ IsSp w' u n a (b - a) ∧ Below w.heap.size w w' := by
  have HX := h
  obtain ⟨va, vb, rfl, h1, h2⟩ := h
  obtain ⟨W0, hW, bn, bx, br, hsz, hb0'⟩ : ∃ W0, W0 = ((w.alloc (.cells #[.int .i64 (n : Int)] 3)).alloc (.cells #[.bool (fr false a b).neg, va, vb] 26)).alloc (.cells #[.int .i64 0, .bool false, .slice none 0 0, .slice none 0 0, .nilFunc] 79) ∧
      Box W0 w.heap.size #[.int .i64 (n : Int)] 3 ∧ Box W0 (w.heap.size + 1) #[.bool (fr false a b).neg, va, vb] 26 ∧ Box W0 (w.heap.size + 2) #[.int .i64 0, .bool false, .slice none 0 0, .slice none 0 0, .nilFunc] 79 ∧ W0.heap.size = w.heap.size + 3 ∧ Below w.heap.size w W0 := by
    refine ⟨_, rfl, ((Box.new w _ _).alloc _).alloc _, ?_, ?_, by simp, ?_⟩
    · have := (Box.new (w.alloc (.cells #[.int .i64 (n : Int)] 3)) #[.bool (fr false a b).neg, va, vb] 26).alloc (.cells #[.int .i64 0, .bool false, .slice none 0 0, .slice none 0 0, .nilFunc] 79)
      simpa using this
    · have := (Box.new ((w.alloc (.cells #[.int .i64 (n : Int)] 3)).alloc (.cells #[.bool (fr false a b).neg, va, vb] 26)) #[.int .i64 0, .bool false, .slice none 0 0, .slice none 0 0, .nilFunc] 79)
      simpa using this
    · exact (((Below.refl _ w).alloc (Nat.le_refl _) _).alloc (by simp) _).alloc (by simp; omega) _
  obtain ⟨c0, c1, c2⟩ := bx.cells3
  obtain ⟨p, cp, rfl, _, _⟩ := h1.shape
  obtain ⟨q, cq, rfl, _, _⟩ := h2.shape
  have H1 := Lib.hid (HX.after hb0')
  have HB0 := Lib.hid hb0'
  have BX := Lib.hid bx
  have BN := Lib.hid bn
  have BR := Lib.hid br
  clear HX bx bn br hb0' h1 h2
  go_enter Try.func33, Try.ntmps33
  go_upto_region 1 with fail
  rw [← hW]
  clear hW
  go_cut [5, 6] (fun x y wx => ∃ N D : Nat, x = .pointer (some ⟨N, 0, none⟩) ∧ y = .pointer (some ⟨D, 0, none⟩) ∧ W0.heap.size ≤ N ∧ W0.heap.size ≤ D ∧ VarF wx N (Wh a) ∧ VarF wx D (Wh b) ∧ Below W0.heap.size W0 wx)
  case first =>
    go_region_held3 (fun w' => w'.cell? ⟨w.heap.size + 1, 0, none⟩ = some (.bool (fr false a b).neg) ∧ w'.cell? ⟨w.heap.size + 1, 1, none⟩ = some (.slice p (fr false a b).num.length cp) ∧ w'.cell? ⟨w.heap.size + 1, 2, none⟩ = some (.slice q (fr false a b).den.length cq))
      (first | ((refine ⟨?_, ?_, ?_⟩ <;> simp [World.cell?_alloc_lt, hsz, c0, c1, c2]); done) | (go_keep; done)) (fail)
    all_goals
      have hA := (H1.out.parts).2.1
      have hB := (H1.out.parts).2.2
      go_wp2_with fail
      go_meet
      case rel =>
        refine ⟨_, _, rfl, rfl, by omega, by omega, ?_, ?_, below_dr (held_alloc (held_alloc (held_alloc (held_alloc (Below.refl _ W0)))))⟩
        · apply VarF.four hA (held_alloc (held_alloc (held_alloc (held_alloc (Below.refl _ W0)))))
          (first | with_reducible exact four1 hsz | with_reducible exact four2 hsz | with_reducible exact four3 hsz | with_reducible exact four4 hsz)
          (first | with_reducible exact four1 hsz | with_reducible exact four2 hsz | with_reducible exact four3 hsz | with_reducible exact four4 hsz)
        · apply VarF.four hB (held_alloc (held_alloc (held_alloc (held_alloc (Below.refl _ W0)))))
          (first | with_reducible exact four1 hsz | with_reducible exact four2 hsz | with_reducible exact four3 hsz | with_reducible exact four4 hsz)
          (first | with_reducible exact four1 hsz | with_reducible exact four2 hsz | with_reducible exact four3 hsz | with_reducible exact four4 hsz)
  case rest =>
    obtain ⟨N, D, rfl, rfl, hN, hD, ⟨va', vb', bxN, sN1, sN2⟩, ⟨vc', vd', bxD, sD1, sD2⟩, hbc⟩ := hcut
    obtain ⟨p1, cp1, rfl, _, _⟩ := sN1.shape
    obtain ⟨q1, cq1, rfl, _, _⟩ := sN2.shape
    obtain ⟨p2, cp2, rfl, _, _⟩ := sD1.shape
    obtain ⟨q2, cq2, rfl, _, _⟩ := sD2.shape
    obtain ⟨x0, x1, x2⟩ := bxN.cells3
    obtain ⟨y0, y1, y2⟩ := bxD.cells3
    have l1 : (limbs a).length ≤ 32 := Nat.le_trans (limbs_mid (by omega)) (by omega)
    have l2 : (limbs b).length ≤ 32 := Nat.le_trans (limbs_mid (by omega)) (by omega)
    have hsub := Lib.hid (sub_wh l2 l1 hab)
    have BN1 := Lib.hid (BN.out.after hbc)
    have BR1 := Lib.hid (BR.out.after hbc)
    have HBc := Lib.hid (HB0.out.trans (hbc.mono HB0.out.size))
    have HBN := Lib.hid bxN
    have HBD := Lib.hid bxD
    have HN := Lib.hid (show IsF wc (.agg #[.bool (Wh a).neg, .slice p1 (Wh a).num.length cp1, .slice q1 (Wh a).den.length cq1]) (Wh a) from ⟨_, _, rfl, sN1, sN2⟩)
    have HD := Lib.hid (show IsF wc (.agg #[.bool (Wh b).neg, .slice p2 (Wh b).num.length cp2, .slice q2 (Wh b).den.length cq2]) (Wh b) from ⟨_, _, rfl, sD1, sD2⟩)
    have hL1 := Lib.hid l1
    have hL2 := Lib.hid l2
    have hszc := hbc.size
    clear bxN bxD sN1 sN2 sD1 sD2 hbc BN BR HB0 BX c0 c1 c2 H1 l1 l2
    go_wp2_with fail
    refine (Sub_c _ _ _ (Wh b) (Wh a) HD.out HN.out).mono ?_
    rw [hsub.out]
    rintro e w1 ⟨v1, rfl, hv1, hb1⟩
    obtain ⟨ve, vf, rfl, h5, h6⟩ := hv1
    obtain ⟨p3, cp3, rfl, _, _⟩ := h5.shape
    obtain ⟨q3, cq3, rfl, _, _⟩ := h6.shape
    obtain ⟨x0, x1, x2⟩ := (HBN.out.after hb1).cells3
    obtain ⟨y0, y1, y2⟩ := (HBD.out.after hb1).cells3
    have hn0 := (BN1.out.after hb1).cell 0
    have hszw := hb1.size
    obtain ⟨W2, hW2⟩ : ∃ W2, W2 = w1.alloc (.cells #[.bool (Wh (b - a)).neg, .slice p3 (Wh (b - a)).num.length cp3, .slice q3 (Wh (b - a)).den.length cq3] 26) := ⟨_, rfl⟩
    have hb2 : Below w1.heap.size w1 W2 := hW2 ▸ (Below.refl _ w1).alloc (Nat.le_refl _) _
    have hb12 := hb1.trans (hb2.mono hb1.size)
    have HG := Lib.hid (hW2 ▸ Box.new w1 #[.bool (Wh (b - a)).neg, .slice p3 (Wh (b - a)).num.length cp3, .slice q3 (Wh (b - a)).den.length cq3] 26 : Box W2 w1.heap.size #[.bool (Wh (b - a)).neg, .slice p3 (Wh (b - a)).num.length cp3, .slice q3 (Wh (b - a)).den.length cq3] 26)
    have HGI := Lib.hid (show IsF W2 (.agg #[.bool (Wh (b - a)).neg, .slice p3 (Wh (b - a)).num.length cp3, .slice q3 (Wh (b - a)).den.length cq3]) (Wh (b - a)) from ⟨_, _, rfl, h5.after hb2, h6.after hb2⟩)
    have HN2 := Lib.hid (HN.out.after hb12)
    have HD2 := Lib.hid (HD.out.after hb12)
    have BN2 := Lib.hid (BN1.out.after hb12)
    have BR2 := Lib.hid (BR1.out.after hb12)
    have HBN2 := Lib.hid (HBN.out.after hb12)
    have HBD2 := Lib.hid (HBD.out.after hb12)
    have HB2 := Lib.hid (HBc.out.trans (hb12.mono HBc.out.size))
    have hsz2 : w.heap.size + 3 ≤ W2.heap.size := by have := hb2.size; omega
    clear h5 h6 hb1 hb2 hb12 HN HD BN1 BR1 HBN HBD HBc
    go_upto_region 1 with fail
    rw [← hW2]
    clear hW2 x0 x1 x2 y0 y1 y2 hn0
    obtain ⟨x0, x1, x2⟩ := HBN2.out.cells3
    obtain ⟨g0, g1, g2⟩ := HG.out.cells3
    have hn0 := BN2.out.cell 0
    have mkS : Hid (∀ w', Below W2.heap.size W2 w' → Below W2.heap.size W2 w' ∧ w'.cell? ⟨w.heap.size, 0, none⟩ = some (.int .i64 (n : Int)) ∧ w'.cell? ⟨N, 0, none⟩ = some (.bool (Wh a).neg) ∧ w'.cell? ⟨N, 1, none⟩ = some (.slice p1 (Wh a).num.length cp1) ∧ w'.cell? ⟨N, 2, none⟩ = some (.slice q1 (Wh a).den.length cq1) ∧
        w'.cell? ⟨w1.heap.size, 0, none⟩ = some (.bool (Wh (b - a)).neg) ∧ w'.cell? ⟨w1.heap.size, 1, none⟩ = some (.slice p3 (Wh (b - a)).num.length cp3) ∧ w'.cell? ⟨w1.heap.size, 2, none⟩ = some (.slice q3 (Wh (b - a)).den.length cq3)) :=
      fun w' hb => ⟨hb, keep_cell hb hn0, keep_cell hb x0, keep_cell hb x1, keep_cell hb x2, keep_cell hb g0, keep_cell hb g1, keep_cell hb g2⟩
    have hp1 : Hid (∀ i, i ≤ n → (limbs (a ^ i)).length ≤ 32) := fun i hi => Nat.le_trans (pow_limbs (by omega) (by omega)) (by omega)
    have hp2 : Hid (∀ i, i ≤ n → (limbs ((b - a) ^ i)).length ≤ 32) := fun i hi => Nat.le_trans (pow_limbs (by omega) (by omega)) (by omega)
    have hL3 : Hid ((limbs (b - a)).length ≤ 32) := Nat.le_trans (limbs_len_mono (Nat.sub_le b a)) hL2.out
    go_cut [9, 10] (fun x y wx => ∃ F9 F10 : Nat, x = .pointer (some ⟨F9, 0, none⟩) ∧ y = .pointer (some ⟨F10, 0, none⟩) ∧ (∃ u, wx.cell? ⟨F9, 0, none⟩ = some u ∧ SlF wx u (pows a n)) ∧ (∃ u, wx.cell? ⟨F10, 0, none⟩ = some u ∧ SlF wx u (pows (b - a) n)) ∧ Below W2.heap.size W2 wx)
    case first =>
      go_region_held3 (fun w' => Below W2.heap.size W2 w' ∧ w'.cell? ⟨w.heap.size, 0, none⟩ = some (.int .i64 (n : Int)) ∧ w'.cell? ⟨N, 0, none⟩ = some (.bool (Wh a).neg) ∧ w'.cell? ⟨N, 1, none⟩ = some (.slice p1 (Wh a).num.length cp1) ∧ w'.cell? ⟨N, 2, none⟩ = some (.slice q1 (Wh a).den.length cq1) ∧
        w'.cell? ⟨w1.heap.size, 0, none⟩ = some (.bool (Wh (b - a)).neg) ∧ w'.cell? ⟨w1.heap.size, 1, none⟩ = some (.slice p3 (Wh (b - a)).num.length cp3) ∧ w'.cell? ⟨w1.heap.size, 2, none⟩ = some (.slice q3 (Wh (b - a)).den.length cq3))
        (first | (refine mkS.out _ ?_; repeat (first | with_reducible exact hk4 | with_reducible exact hk3 | with_reducible exact Below.refl _ _ | with_reducible refine below_dr ?_ | with_reducible refine held_alloc ?_ | ((with_reducible refine held_set ?_ ?_); rotate_left; (first | exact Nat.le_refl _ | exact Nat.le_add_right _ _ | assumption | (simp; done) | (simp; omega) | omega)))))
        (first
         | (go_at_call 50; refine (powers_h _ W2 _ a n ?_ HN2.out hn hL1.out hp1.out).mono ?_; apply And.left; assumption; rintro e w3 ⟨u1, rfl, hu1, hk3, hb3⟩; have hU1 := hu1; obtain ⟨b1, cb1, rfl, _, _, hall1⟩ := hu1; have hz3 := hk3.size; obtain ⟨ho3, ho3f⟩ := old_cells hb3; have hs3 := hb3.size; (try simp at hs3); clear hb3; (try (have hs3a : W2.heap.size < w3.heap.size := hs3)); (try (have hs3b : W2.heap.size < w3.heap.size := Nat.lt_of_succ_lt hs3)); (try (have hs3c : W2.heap.size + 1 < w3.heap.size := hs3)); clear HN2)
         | (go_at_call 50; refine (powers_h _ W2 _ (b - a) n ?_ HGI.out hn hL3.out hp2.out).mono ?_; apply And.left; assumption; rintro e w4 ⟨u2, rfl, hu2, hk4, hb4⟩; have hV2 := hu2; (first | (have hV1 := SlF.after hU1 hb4) | (have hV1 := SlF.after (SlF.alloc hU1 _) hb4) | (have hV1 := SlF.after (SlF.alloc (SlF.alloc hU1 _) _) hb4)); obtain ⟨b2, cb2, rfl, _, _, hall2⟩ := hu2; have hz4 := hk4.size; obtain ⟨ho4, ho4f⟩ := old_cells hb4; have hs4 := hb4.size; (try simp at hs4); clear hb4; (try (have hs4a : w3.heap.size < w4.heap.size := hs4)); (try (have hs4b : w3.heap.size < w4.heap.size := Nat.lt_of_succ_lt hs4)); (try (have hs4c : w3.heap.size + 1 < w4.heap.size := hs4)); (try (have hs4d : W2.heap.size < w4.heap.size := Nat.lt_of_lt_of_le hs3a (Nat.le_trans (by simp) hs4))); (try (have hs4d : W2.heap.size < w4.heap.size := Nat.lt_of_lt_of_le hs3b (Nat.le_trans (by simp) hs4))); (try (have hs4e : W2.heap.size + 1 < w4.heap.size := Nat.lt_of_lt_of_le hs3c (Nat.le_trans (by simp) hs4)))))
      all_goals
        go_wp2_with fail
        go_meet
        case rel =>
          refine ⟨_, _, rfl, rfl, ⟨.slice (some ⟨b1, 0, none⟩) (pows a n).length cb1, ?_, ?_⟩, ⟨.slice (some ⟨b2, 0, none⟩) (pows (b - a) n).length cb2, ?_, ?_⟩, ?_⟩
          · first | (go_simp; done) | (go_simp; (refine World.cell?_setCell_same' _ _ _ ?_); go_simp; done)
          · repeat (first | exact hV1 | refine SlF.alloc ?_ _ | ((refine SlF.setS (p := none) (n := 0) (c := 0) ?_ ?_ _); rotate_left; go_simp))
          · first | (go_simp; done) | (go_simp; (refine World.cell?_setCell_same' _ _ _ ?_); go_simp; done)
          · repeat (first | exact hV2 | refine SlF.alloc ?_ _ | ((refine SlF.setS (p := none) (n := 0) (c := 0) ?_ ?_ _); rotate_left; go_simp))
          · repeat (first | with_reducible exact hk4 | with_reducible refine below_dr ?_ | with_reducible refine held_alloc ?_ | ((with_reducible refine held_set ?_ ?_); rotate_left; (first | exact Nat.le_refl _ | exact Nat.le_add_right _ _ | assumption | (simp; done) | (simp; omega) | omega)))
    case rest =>
      obtain ⟨F9, F10, rfl, rfl, ⟨u1, hf1, hU1⟩, ⟨u2, hf2, hU2⟩, hbx⟩ := hcut
      have hp3 : Hid (∀ i, i ≤ n → (limbs (b ^ i)).length ≤ 32) := fun i hi => Nat.le_trans (pow_limbs (by omega) (by omega)) (by omega)
      obtain ⟨y0, y1, y2⟩ := (HBD2.out.after hbx).cells3
      have hn1 := (BN2.out.after hbx).cell 0
      have HD3 := Lib.hid (HD2.out.after hbx)
      have BN3 := Lib.hid (BN2.out.after hbx)
      have BR3 := Lib.hid (BR2.out.after hbx)
      have HB3 := Lib.hid (HB2.out.trans (hbx.mono HB2.out.size))
      have HF1 := Lib.hid hf1
      have HF2 := Lib.hid hf2
      have HU1 := Lib.hid hU1
      have HU2 := Lib.hid hU2
      clear hf1 hf2 hU1 hU2 hbx HBD2 HD2 BN2 BR2 HB2 HG HGI HN2 HBN2 mkS x0 x1 x2 g0 g1 g2 hn0 hp1 hp2
      go_wp2_with fail
      refine (powers_t _ _ b n HD3.out hn hL2.out hp3.out).mono ?_
      rintro e w5 ⟨u3, rfl, hu3, hb5⟩
      have hb5' := hb5
      obtain ⟨b3, cb3, rfl, hlc, hlc2, hall⟩ := hu3
      obtain ⟨vi, vj, e0, e1, e2, hi1, hi2⟩ := hall n _ (pows_get (Nat.le_refl n))
      obtain ⟨p5, cp5, rfl, _, _⟩ := hi1.shape
      obtain ⟨q5, cq5, rfl, _, _⟩ := hi2.shape
      have hR5 := BR3.out.after hb5
      have hn5 : w5.cell? ⟨w.heap.size, 0, none⟩ = some (.int .i64 (n : Int)) := (BN3.out.after hb5).cell 0
      have hne : b3 ≠ w.heap.size + 1 + 1 := by
        rintro rfl
        obtain ⟨_, _, e0', _⟩ := hall 0 _ (pows_get (Nat.zero_le n))
        rw [Nat.zero_mul, hR5.cell] at e0'
        simp at e0'
      have hplen := pows_len b n
      have k9 := keep_cell hb5 HF1.out
      have k10 := keep_cell hb5 HF2.out
      have HU1' := Lib.hid (HU1.out.after hb5)
      have HU2' := Lib.hid (HU2.out.after hb5)
      have h9 : F9 ≠ w.heap.size + 1 + 1 := by
        rintro rfl
        obtain ⟨_, _, e, _⟩ := HU1.out
        rw [hR5.cell, e] at k9
        simp at k9
      have h10 : F10 ≠ w.heap.size + 1 + 1 := by
        rintro rfl
        obtain ⟨_, _, e, _⟩ := HU2.out
        rw [hR5.cell, e] at k10
        simp at k10
      have K9 := Lib.hid k9
      have K10 := Lib.hid k10
      have HI1 := Lib.hid hi1
      have HI2 := Lib.hid hi2
      have HR5 := Lib.hid hR5
      have HB5 := Lib.hid (HB3.out.trans (hb5.mono HB3.out.size))
      have r0 := hR5.cell 0
      have r1 := hR5.cell 1
      have r2 := hR5.cell 2
      have r3 := hR5.cell 3
      have r4 := hR5.cell 4
      have f0 := hR5.frozen 0
      have f1 := hR5.frozen 1
      have f2 := hR5.frozen 2
      have f3 := hR5.frozen 3
      have f4 := hR5.frozen 4
      have hi0' : (0 : Int) ≤ (n : Int) := Int.natCast_nonneg _
      have hi1' : (n : Int) < ((n : Int) + 1) := by omega
      simp only [List.getElem?_toArray, List.getElem?_cons_zero, List.getElem?_cons_succ] at r0 r1 r2 r3 r4
      rw [hplen] at *
      clear y0 y1 y2 hn1 hall hb5 hb5' hi1 hi2 hR5 k9 k10 HU1 HU2 HF1 HF2 BN3 BR3 HB3 HD3
      have HR6 : Hid (Box w5 (w.heap.size + 1 + 1) #[.int .i64 0, .bool false, .slice none 0 0, .slice none 0 0, .nilFunc] 79) := HR5.out
      obtain ⟨s1, s2, s3⟩ := spread_end HR6.out (z := (n : Int)) (p := p5) (l1 := (Wh (b ^ n)).num.length) (c1 := cp5) (q := q5) (l2 := (Wh (b ^ n)).den.length) (c2 := cq5) (f := .func (.func 51) #[] #[.pointer (some ⟨w.heap.size, 0, none⟩), .pointer (some ⟨F9, 0, none⟩), .pointer (some ⟨F10, 0, none⟩)]) (Wh (b ^ n)).neg
      have n0 : w.heap.size ≠ w.heap.size + 1 + 1 := by omega
      have t0 := (s3 _ 0 n0).trans hn5
      have t1 := (s3 _ (n * 3) hne).trans e0
      have t2 := (s3 _ (n * 3 + 1) hne).trans e1
      have t3 := (s3 _ (n * 3 + 2) hne).trans e2
      have TT := Lib.hid (And.intro t0 (And.intro t1 (And.intro t2 t3)))
      have TS := Lib.hid (And.intro hn5 (And.intro e0 (And.intro e1 e2)))
      clear t0 t1 t2 t3
      have S1 := Lib.hid s1
      have S2 := Lib.hid s2
      have S3 := Lib.hid s3
      clear s1 s2 s3
      go_upto_region 1 with fail
      go_region_held3 (fun w' => w'.cell? ⟨w.heap.size, 0, none⟩ = some (.int .i64 (n : Int)) ∧ w'.cell? ⟨b3, n * 3, none⟩ = some (.bool (Wh (b ^ n)).neg) ∧ w'.cell? ⟨b3, n * 3 + 1, none⟩ = some (.slice p5 (Wh (b ^ n)).num.length cp5) ∧ w'.cell? ⟨b3, n * 3 + 2, none⟩ = some (.slice q5 (Wh (b ^ n)).den.length cq5))
        (first | with_reducible exact TS.out | with_reducible exact TT.out | (simp only [World.cell?_drew]; with_reducible exact TS.out) | (simp only [World.cell?_drew]; with_reducible exact TT.out)) (fail)
      go_wp2_with fail
      have hab' : a + (b - a) = b := by omega
      obtain ⟨W6, hW6⟩ : ∃ W6, W6 = (((((w5.setCell ⟨w.heap.size + 1 + 1, 0, none⟩ (.int .i64 (n : Int))).setCell ⟨w.heap.size + 1 + 1, 1, none⟩ (.bool (Wh (b ^ n)).neg)).setCell ⟨w.heap.size + 1 + 1, 2, none⟩ (.slice p5 (Wh (b ^ n)).num.length cp5)).setCell ⟨w.heap.size + 1 + 1, 3, none⟩ (.slice q5 (Wh (b ^ n)).den.length cq5)).setCell ⟨w.heap.size + 1 + 1, 4, none⟩ (.func (.func 51) #[] #[.pointer (some ⟨w.heap.size, 0, none⟩), .pointer (some ⟨F9, 0, none⟩), .pointer (some ⟨F10, 0, none⟩)])).drew := ⟨_, rfl⟩
      have hb6 := spread_box (y0 := .int .i64 (n : Int)) (y1 := .bool (Wh (b ^ n)).neg) (y2 := .slice p5 (Wh (b ^ n)).num.length cp5) (y3 := .slice q5 (Wh (b ^ n)).den.length cq5) (y4 := .func (.func 51) #[] #[.pointer (some ⟨w.heap.size, 0, none⟩), .pointer (some ⟨F9, 0, none⟩), .pointer (some ⟨F10, 0, none⟩)]) HR6.out
      have hb7 : Box W6 (w.heap.size + 1 + 1) #[.int .i64 (n : Int), .bool (Wh (b ^ n)).neg, .slice p5 (Wh (b ^ n)).num.length cp5, .slice q5 (Wh (b ^ n)).den.length cq5, .func (.func 51) #[] #[.pointer (some ⟨w.heap.size, 0, none⟩), .pointer (some ⟨F9, 0, none⟩), .pointer (some ⟨F10, 0, none⟩)]] 79 := by rw [hW6]; exact hb6.drewN 1
      obtain ⟨g0, g1, g2, g3, g4⟩ := hb7.cells5
      have hz : IsSp W6 (.agg #[.int .i64 (n : Int), .bool (Wh (b ^ n)).neg, .slice p5 (Wh (b ^ n)).num.length cp5, .slice q5 (Wh (b ^ n)).den.length cq5, .func (.func 51) #[] #[.pointer (some ⟨w.heap.size, 0, none⟩), .pointer (some ⟨F9, 0, none⟩), .pointer (some ⟨F10, 0, none⟩)]]) n a (b - a) := by
        refine ⟨.slice p5 (Wh (b ^ n)).num.length cp5, .slice q5 (Wh (b ^ n)).den.length cq5, w.heap.size, F9, F10, rfl, ?_, ?_, ⟨?_, ⟨u1, ?_, ?_⟩, ⟨u2, ?_, ?_⟩⟩⟩
        · rw [hab', hW6]; exact (S1.out _ _ HI1.out).drew
        · rw [hW6]; exact (S1.out _ _ HI2.out).drew
        · rw [hW6, World.cell?_drew]; exact (S3.out _ 0 n0).trans hn5
        · rw [hW6, World.cell?_drew]; exact (S3.out _ 0 h9).trans K9.out
        · rw [hW6]; exact (S2.out _ _ (by rw [pows_len]; omega) HU1'.out).drew
        · rw [hW6, World.cell?_drew]; exact (S3.out _ 0 h10).trans K10.out
        · rw [hW6]; exact (S2.out _ _ (by rw [pows_len]; omega) HU2'.out).drew
      have hy : Below w.heap.size w W6 := by rw [hW6]; exact below_dr (spread_below HB5.out (by omega))
      have HZ := Lib.hid hz
      have HY := Lib.hid hy
      rw [← hW6]
      clear hW6 hb6 hb7 r0 r1 r2 r3 r4 f0 f1 f2 f3 f4 hz hy
      refine bodyPost_ret (v := .agg #[.int .i64 (n : Int), .bool (Wh (b ^ n)).neg, .slice p5 (Wh (b ^ n)).num.length cp5, .slice q5 (Wh (b ^ n)).den.length cq5, .func (.func 51) #[] #[.pointer (some ⟨w.heap.size, 0, none⟩), .pointer (some ⟨F9, 0, none⟩), .pointer (some ⟨F10, 0, none⟩)]]) (by simp [results, Try.results33, go_sem, g0, g1, g2, g3, g4]) rfl ?_
      exact ⟨_, rfl, HZ.out, HY.out⟩
end Go.Proofs.Ytebmegodeglobaa

namespace Go.Proofs.Ytebmegodeglobaa
open Go.RowKit

theorem times3_t (w : World) (v : Value) (a b c : Nat) (h : SlF w v [Wh a, Wh b, Wh c]) (ha : (limbs a).length ≤ 32) (hb : (limbs b).length ≤ 32) (hc : (limbs c).length ≤ 32) (hab : (limbs (a * b)).length ≤ 32) (habc : (limbs (a * (b * c))).length ≤ 32) :
    Calls Try.prog 52 #[v] w (RetF1 w (Wh (a * (b * c)))) := by
  have := times_t w v [a, b, c] h (by simp) (by simp) (by simp [ha, hb, hc]) (fun i hi => by
    match i, hi with
    | 0, _ => show (limbs 1).length ≤ 32; rw [limbs_one_len]; omega
    | 1, _ => show (limbs (a * 1)).length ≤ 32; rw [Nat.mul_one]; exact ha
    | 2, _ => show (limbs (a * (b * 1))).length ≤ 32; rw [Nat.mul_one]; exact hab
    | 3, _ => show (limbs (a * (b * (c * 1)))).length ≤ 32; rw [Nat.mul_one]; exact habc)
  rwa [show prod [a, b, c] = a * (b * c) from by simp [prod]] at this
theorem ex_eq (a c n k : Nat) : ch n k * (a ^ k * c ^ (n - k)) = ex a c n k := by unfold ex; rw [Nat.mul_comm]

set_option maxRecDepth 100000 in
set_option maxHeartbeats 4000000 in
theorem part_t (w : World) (n a c k c2 c9 c10 : Nat) (h : Part w c2 c9 c10 n a c) (hk : k ≤ n) (hn : n ≤ 64) (hac : a + c ≤ 1000) :
    Calls Try.prog 51 #[.int .i64 (k : Int), .pointer (some ⟨c2, 0, none⟩), .pointer (some ⟨c9, 0, none⟩), .pointer (some ⟨c10, 0, none⟩)] w (RetF1 w (Wh (ex a c n k))) := by
  obtain ⟨hn0, ⟨u1, h9, hu1⟩, ⟨u2, h10, hu2⟩⟩ := h
  obtain ⟨b1, cb1, rfl, hl1, hl1', hall1⟩ := hu1
  obtain ⟨b2, cb2, rfl, hl2, hl2', hall2⟩ := hu2
  obtain ⟨v1, v2, e0, e1, e2, hi1, hi2⟩ := hall1 k _ (pows_get hk)
  obtain ⟨p1, cp1, rfl, _, _⟩ := hi1.shape
  obtain ⟨q1, cq1, rfl, _, _⟩ := hi2.shape
  obtain ⟨v3, v4, g0, g1, g2, hj1, hj2⟩ := hall2 (n - k) _ (pows_get (Nat.sub_le n k))
  obtain ⟨p2, cp2, rfl, _, _⟩ := hj1.shape
  obtain ⟨q2, cq2, rfl, _, _⟩ := hj2.shape
  have hIF1 := Lib.hid (show IsF w (.agg #[.bool (Wh (a ^ k)).neg, .slice p1 (Wh (a ^ k)).num.length cp1, .slice q1 (Wh (a ^ k)).den.length cq1]) (Wh (a ^ k)) from ⟨_, _, rfl, hi1, hi2⟩)
  have hIF2 := Lib.hid (show IsF w (.agg #[.bool (Wh (c ^ (n - k))).neg, .slice p2 (Wh (c ^ (n - k))).num.length cp2, .slice q2 (Wh (c ^ (n - k))).den.length cq2]) (Wh (c ^ (n - k))) from ⟨_, _, rfl, hj1, hj2⟩)
  rw [pows_len] at h9 h10 hl1 hl2
  have la : Hid ((limbs (a ^ k)).length ≤ 20) := pow_limbs (by omega) (by omega)
  have lc : Hid ((limbs (c ^ (n - k))).length ≤ 20) := pow_limbs (by omega) (by omega)
  have lh : Hid ((limbs (ch n k)).length ≤ 3) := ch_limbs hn
  have l1 : Hid ((limbs (a ^ k)).length ≤ 32) := Nat.le_trans la.out (by omega)
  have l2 : Hid ((limbs (c ^ (n - k))).length ≤ 32) := Nat.le_trans lc.out (by omega)
  have l3 : Hid ((limbs (ch n k)).length ≤ 32) := Nat.le_trans lh.out (by omega)
  have l4 : Hid ((limbs (ch n k * a ^ k)).length ≤ 32) := Nat.le_trans (limbs_mul_len _ _) (by have := la.out; have := lh.out; omega)
  have l5 : Hid ((limbs (ch n k * (a ^ k * c ^ (n - k)))).length ≤ 32) := by
    show _ ≤ _
    rw [ex_eq]
    exact Nat.le_trans (limbs_len_mono (ex_all_le a c n k)) (Nat.le_trans (pow_limbs hac hn) (by omega))
  have hex := Lib.hid (ex_eq a c n k)
  have hk' := Lib.hid hk
  have hn' := Lib.hid hn
  obtain ⟨W0, hW⟩ : ∃ W0, W0 = w.alloc (.cells #[.bool false, .slice none 0 0, .slice none 0 0] 26) := ⟨_, rfl⟩
  have hb0 : Below w.heap.size w W0 := hW ▸ (Below.refl w.heap.size w).alloc (Nat.le_refl _) _
  have br : Box W0 w.heap.size #[.bool false, .slice none 0 0, .slice none 0 0] 26 := hW ▸ Box.new w _ _
  have HB0 := Lib.hid hb0
  have BR := Lib.hid br
  have mkS : Hid (∀ w', Below w.heap.size w w' → w'.cell? ⟨c2, 0, none⟩ = some (.int .i64 (n : Int)) ∧ w'.cell? ⟨c9, 0, none⟩ = some (.slice (some ⟨b1, 0, none⟩) (n + 1) cb1) ∧ w'.cell? ⟨c10, 0, none⟩ = some (.slice (some ⟨b2, 0, none⟩) (n + 1) cb2) ∧
      w'.cell? ⟨b1, k * 3, none⟩ = some (.bool (Wh (a ^ k)).neg) ∧ w'.cell? ⟨b1, k * 3 + 1, none⟩ = some (.slice p1 (Wh (a ^ k)).num.length cp1) ∧ w'.cell? ⟨b1, k * 3 + 2, none⟩ = some (.slice q1 (Wh (a ^ k)).den.length cq1) ∧
      w'.cell? ⟨b2, (n - k) * 3, none⟩ = some (.bool (Wh (c ^ (n - k))).neg) ∧ w'.cell? ⟨b2, (n - k) * 3 + 1, none⟩ = some (.slice p2 (Wh (c ^ (n - k))).num.length cp2) ∧ w'.cell? ⟨b2, (n - k) * 3 + 2, none⟩ = some (.slice q2 (Wh (c ^ (n - k))).den.length cq2)) :=
    fun w' hb => ⟨keep_cell hb hn0, keep_cell hb h9, keep_cell hb h10, keep_cell hb e0, keep_cell hb e1, keep_cell hb e2, keep_cell hb g0, keep_cell hb g1, keep_cell hb g2⟩
  have hsum : IntKind.i64.wrap ((n : Int) - (k : Int)) = ((n - k : Nat) : Int) := by rw [wrap_in (by omega) (by omega)]; omega
  have b0 : (0 : Int) ≤ (k : Int) := Int.natCast_nonneg _
  have b1' : (k : Int) < (n : Int) + 1 := by omega
  have b2' : (0 : Int) ≤ ((n - k : Nat) : Int) := Int.natCast_nonneg _
  have b3' : ((n - k : Nat) : Int) < (n : Int) + 1 := by omega
  have b4' : k < n + 1 := by omega
  have b5' : n - k < n + 1 := by omega
  clear hb0 br hall1 hall2 hi1 hi2 hj1 hj2 hn0 h9 h10 e0 e1 e2 g0 g1 g2 hk hn hac
  go_enter Try.func51, Try.ntmps51
  go_upto_region 1 with fail
  rw [← hW]
  clear hW
  go_region_held3 (fun w' => w'.cell? ⟨c2, 0, none⟩ = some (.int .i64 (n : Int)) ∧ w'.cell? ⟨c9, 0, none⟩ = some (.slice (some ⟨b1, 0, none⟩) (n + 1) cb1) ∧ w'.cell? ⟨c10, 0, none⟩ = some (.slice (some ⟨b2, 0, none⟩) (n + 1) cb2) ∧
      w'.cell? ⟨b1, k * 3, none⟩ = some (.bool (Wh (a ^ k)).neg) ∧ w'.cell? ⟨b1, k * 3 + 1, none⟩ = some (.slice p1 (Wh (a ^ k)).num.length cp1) ∧ w'.cell? ⟨b1, k * 3 + 2, none⟩ = some (.slice q1 (Wh (a ^ k)).den.length cq1) ∧
      w'.cell? ⟨b2, (n - k) * 3, none⟩ = some (.bool (Wh (c ^ (n - k))).neg) ∧ w'.cell? ⟨b2, (n - k) * 3 + 1, none⟩ = some (.slice p2 (Wh (c ^ (n - k))).num.length cp2) ∧ w'.cell? ⟨b2, (n - k) * 3 + 2, none⟩ = some (.slice q2 (Wh (c ^ (n - k))).den.length cq2))
    (first | (refine mkS.out _ ?_; repeat (first | with_reducible exact hk3 | with_reducible exact hk2 | with_reducible exact HB0.out | with_reducible refine below_dr ?_ | (with_reducible refine Below.alloc ?_ hz2 _) | ((with_reducible refine Below.setCell ?_ ?_ _); rotate_left; exact Nat.le_refl _))))
    (first
     | (go_at_call 53; refine (choose_t _ n k hk'.out hn'.out).mono ?_; rintro e w2 ⟨v2, rfl, hv2, hb2⟩; have hk2 := HB0.out.trans ((below_of_drew hb2).mono HB0.out.size); have hz2 := hk2.size; have BR2 := Lib.hid (BR.out.after (below_of_drew hb2)); have HV2 := Lib.hid hv2; obtain ⟨vx, vy, rfl, h3, h4⟩ := hv2; obtain ⟨p3, cp3, rfl, _, _⟩ := h3.shape; obtain ⟨q3, cq3, rfl, _, _⟩ := h4.shape; clear h3 h4 hb2)
     | (go_at_call 52; refine (times3_t _ _ (ch n k) (a ^ k) (c ^ (n - k)) ?_ l3.out l1.out l2.out l4.out l5.out).mono ?_; exact SlF.three w2 (x := Wh (ch n k)) (y := Wh (a ^ k)) (z := Wh (c ^ (n - k))) HV2.out (hIF1.out.after hk2) (hIF2.out.after hk2) rfl _; rw [hex.out]; rintro e w3 ⟨v3, rfl, hv3, hb3⟩; have hbA := (Below.refl w2.heap.size w2).alloc (Nat.le_refl _) (.cells #[.bool (Wh (ch n k)).neg, .slice p3 (Wh (ch n k)).num.length cp3, .slice q3 (Wh (ch n k)).den.length cq3, .bool (Wh (a ^ k)).neg, .slice p1 (Wh (a ^ k)).num.length cp1, .slice q1 (Wh (a ^ k)).den.length cq1, .bool (Wh (c ^ (n - k))).neg, .slice p2 (Wh (c ^ (n - k))).num.length cp2, .slice q2 (Wh (c ^ (n - k))).den.length cq2] 26); have hbB := hbA.trans (hb3.mono hbA.size); have hk3 := hk2.trans (hbB.mono hk2.size); have BR3 := BR2.out.after hbB; obtain ⟨z0, z1, z2⟩ := BR3.cells3; have f0 := BR3.frozen 0; have f1 := BR3.frozen 1; have f2 := BR3.frozen 2; have HV3 := Lib.hid hv3; obtain ⟨vx, vy, rfl, h3, h4⟩ := hv3; obtain ⟨p4, cp4, rfl, _, _⟩ := h3.shape; obtain ⟨q4, cq4, rfl, _, _⟩ := h4.shape; have HS3 := Lib.hid h3; have HS4 := Lib.hid h4; clear h3 h4 hb3))
  have HK3 := Lib.hid hk3
  have HBR3 := Lib.hid BR3
  clear hk3 hbA hbB BR3 hk2 hz2
  go_wp2_with fail
  refine bodyPost_ret (v := .agg #[.bool (Wh (ex a c n k)).neg, .slice p4 (Wh (ex a c n k)).num.length cp4, .slice q4 (Wh (ex a c n k)).den.length cq4]) (by simp [results, Try.results51, go_sem, z0, z1, z2]) rfl ?_
  exact retF1_end HK3.out HBR3.out (fun _ h => by cases h) (fun _ h => by cases h) (Nat.le_refl _) HS3.out HS4.out
end Go.Proofs.Ytebmegodeglobaa
