/- Walks of package tails: spreadOf.
   Walks of package tails: the part of exactly k failures. -/
import Derived.Test.YtaojdlcailpheaaK11
import Derived.Test.YtaojdlcailpheaaK08
import Derived.Deep.DeepCutAuto
import Derived.Laws.EntriesVeiled
set_option linter.unusedVariables false
namespace Go.Proofs.Ytaojdlcailpheaa
open Go.RowKit

theorem heap_alloc_push (w : World) (o : Obj) : (w.alloc o).heap = w.heap.push o := rfl
theorem four1 {w : World} {o1 o2 o3 o4 : Obj} {B : Nat} (h : w.heap.size = B) : ((((w.alloc o1).alloc o2).alloc o3).alloc o4).heap[B]? = some o1 := by
  subst h
  rw [Below.heap_alloc _ _ _ (by simp <;> omega), Below.heap_alloc _ _ _ (by simp <;> omega), Below.heap_alloc _ _ _ (by simp)]
  exact heap_alloc_new w o1
theorem four2 {w : World} {o1 o2 o3 o4 : Obj} {B : Nat} (h : w.heap.size = B) : ((((w.alloc o1).alloc o2).alloc o3).alloc o4).heap[B + 1]? = some o2 := by
  subst h
  rw [Below.heap_alloc _ _ _ (by simp <;> omega), Below.heap_alloc _ _ _ (by simp)]
  have := heap_alloc_new (w.alloc o1) o2
  rwa [World.size_alloc] at this
theorem four3 {w : World} {o1 o2 o3 o4 : Obj} {B : Nat} (h : w.heap.size = B) : ((((w.alloc o1).alloc o2).alloc o3).alloc o4).heap[B + 1 + 1]? = some o3 := by
  subst h
  rw [Below.heap_alloc _ _ _ (by simp)]
  have := heap_alloc_new ((w.alloc o1).alloc o2) o3
  rwa [World.size_alloc, World.size_alloc] at this
theorem four4 {w : World} {o1 o2 o3 o4 : Obj} {B : Nat} (h : w.heap.size = B) : ((((w.alloc o1).alloc o2).alloc o3).alloc o4).heap[B + 1 + 1 + 1]? = some o4 := by
  subst h
  have := heap_alloc_new (((w.alloc o1).alloc o2).alloc o3) o4
  rwa [World.size_alloc, World.size_alloc, World.size_alloc] at this
theorem VarF.four {w0 w : World} {N : Nat} {a : Nat} {va : Value} {s : Nat} (hA : Sl w0 va (limbs a)) (hb : Below w0.heap.size w0 w) (h1 : w.heap[N]? = some (.cells #[.bool false, va, .slice (some ⟨s, 0, none⟩) 1 1] 25 (0, 0))) (h2 : w.heap[s]? = some (.cells #[.int .u32 1] 51 (0, 0))) : VarF w.drew N (Wh a) :=
  VarF.drew (VarF.lit (hA.after hb) rfl h1 h2)
/-- The closure's three variables. -/
structure Part (w : World) (c2 c9 c10 : Nat) (n a c : Nat) : Prop where
  hn : w.cell? ⟨c2, 0, none⟩ = some (.int .i64 (n : Int))
  hf : ∃ u, w.cell? ⟨c9, 0, none⟩ = some u ∧ SlF w u (pows a n)
  hp : ∃ u, w.cell? ⟨c10, 0, none⟩ = some u ∧ SlF w u (pows c n)
theorem Part.after {w w' : World} {c2 c9 c10 n a c : Nat} (h : Part w c2 c9 c10 n a c) (hb : Below w.heap.size w w') : Part w' c2 c9 c10 n a c := by
  obtain ⟨h1, ⟨u, h2, h3⟩, ⟨u', h4, h5⟩⟩ := h
  exact ⟨keep_cell hb h1, ⟨u, keep_cell hb h2, h3.after hb⟩, ⟨u', keep_cell hb h4, h5.after hb⟩⟩
/-- One store into the result struct leaves what else is read. -/
theorem set_step {w : World} {R i : Nat} {cs : Array Value} {t : TypeId} (hR : Box w R cs t) (hi : i < cs.size) (hn : NoU cs) (h0 : ∀ b, cs[0]? ≠ some (.bool b)) (u : Value) :
    (∀ v l, Sl w v l → Sl (w.setCell ⟨R, i, none⟩ u) v l) ∧ (∀ v xs, 0 < xs.length → SlF w v xs → SlF (w.setCell ⟨R, i, none⟩ u) v xs) ∧ (∀ b j, b ≠ R → (w.setCell ⟨R, i, none⟩ u).cell? ⟨b, j, none⟩ = w.cell? ⟨b, j, none⟩) := by
  have hc : w.cell? ⟨R, i, none⟩ = some cs[i] := by rw [hR.cell, Array.getElem?_eq_getElem hi]
  have hu : ∀ x, cs[i] ≠ .int .u32 x := fun x e => hn i x (by rw [Array.getElem?_eq_getElem hi, e])
  have k : ∀ b j, b ≠ R → (w.setCell ⟨R, i, none⟩ u).cell? ⟨b, j, none⟩ = w.cell? ⟨b, j, none⟩ := fun b j hb => World.cell?_setCell_other w ⟨R, i, none⟩ ⟨b, j, none⟩ u (fun e => hb (by injection e with e1; exact e1.symm))
  refine ⟨fun v l h => h.setN hc hu u, fun v xs hp h => ?_, k⟩
  obtain ⟨g, cap, h1, h2, h3, h4⟩ := h
  have hne : g ≠ R := by
    rintro rfl
    obtain ⟨va, vb, e0, _⟩ := h4 0 xs[0] (List.getElem?_eq_getElem hp)
    rw [Nat.zero_mul, hR.cell] at e0
    exact h0 _ e0
  refine ⟨g, cap, h1, h2, h3, fun j x hx => ?_⟩
  obtain ⟨va, vb, e0, e1, e2, e3, e4⟩ := h4 j x hx
  exact ⟨va, vb, (k _ _ hne).trans e0, (k _ _ hne).trans e1, (k _ _ hne).trans e2, e3.setN hc hu u, e4.setN hc hu u⟩
theorem NoU.five {a b c d e : Value} (ha : ∀ x, a ≠ .int .u32 x) (hb : ∀ x, b ≠ .int .u32 x) (hc : ∀ x, c ≠ .int .u32 x) (hd : ∀ x, d ≠ .int .u32 x) (he : ∀ x, e ≠ .int .u32 x) : NoU #[a, b, c, d, e] := by
  intro i x
  match i with
  | 0 => simpa using ha x
  | 1 => simpa using hb x
  | 2 => simpa using hc x
  | 3 => simpa using hd x
  | 4 => simpa using he x
  | k + 5 => simp
theorem spread_end {w : World} {R : Nat} {z : Int} {p q : Option Addr} {l1 c1 l2 c2 : Nat} {f : Value} {t : TypeId} (hR : Box w R #[.int .i64 0, .bool false, .slice none 0 0, .slice none 0 0, .nilFunc] t) (b : Bool) :
    (∀ v l, Sl w v l → Sl (((((w.setCell ⟨R, 0, none⟩ (.int .i64 z)).setCell ⟨R, 1, none⟩ (.bool b)).setCell ⟨R, 2, none⟩ (.slice p l1 c1)).setCell ⟨R, 3, none⟩ (.slice q l2 c2)).setCell ⟨R, 4, none⟩ f) v l) ∧
    (∀ v xs, 0 < xs.length → SlF w v xs → SlF (((((w.setCell ⟨R, 0, none⟩ (.int .i64 z)).setCell ⟨R, 1, none⟩ (.bool b)).setCell ⟨R, 2, none⟩ (.slice p l1 c1)).setCell ⟨R, 3, none⟩ (.slice q l2 c2)).setCell ⟨R, 4, none⟩ f) v xs) ∧
    (∀ g j, g ≠ R → (((((w.setCell ⟨R, 0, none⟩ (.int .i64 z)).setCell ⟨R, 1, none⟩ (.bool b)).setCell ⟨R, 2, none⟩ (.slice p l1 c1)).setCell ⟨R, 3, none⟩ (.slice q l2 c2)).setCell ⟨R, 4, none⟩ f).cell? ⟨g, j, none⟩ = w.cell? ⟨g, j, none⟩) := by
  have nb : ∀ (z : Int) (b : Bool) x, Value.bool b ≠ .int .u32 x := fun _ _ _ h => by cases h
  have ns : ∀ (p : Option Addr) (n c : Nat) x, Value.slice p n c ≠ .int .u32 x := fun _ _ _ _ h => by cases h
  have ni : ∀ (z : Int) x, Value.int .i64 z ≠ .int .u32 x := fun _ _ h => by cases h
  have nf : ∀ x, Value.nilFunc ≠ .int .u32 x := fun _ h => by cases h
  have r1 := hR.set 0 (.int .i64 z)
  have r2 := r1.set 1 (.bool b)
  have r3 := r2.set 2 (.slice p l1 c1)
  have r4 := r3.set 3 (.slice q l2 c2)
  obtain ⟨a1, b1, d1⟩ := set_step hR (i := 0) (by simp) (NoU.five (ni _) (nb 0 _) (ns _ _ _) (ns _ _ _) nf) (by simp) (.int .i64 z)
  obtain ⟨a2, b2, d2⟩ := set_step r1 (i := 1) (by simp) (by simpa using NoU.five (ni _) (nb 0 _) (ns _ _ _) (ns _ _ _) nf) (by simp) (.bool b)
  obtain ⟨a3, b3, d3⟩ := set_step r2 (i := 2) (by simp) (by simpa using NoU.five (ni _) (nb 0 _) (ns _ _ _) (ns _ _ _) nf) (by simp) (.slice p l1 c1)
  obtain ⟨a4, b4, d4⟩ := set_step r3 (i := 3) (by simp) (by simpa using NoU.five (ni _) (nb 0 _) (ns _ _ _) (ns _ _ _) nf) (by simp) (.slice q l2 c2)
  obtain ⟨a5, b5, d5⟩ := set_step r4 (i := 4) (by simp) (by simpa using NoU.five (ni _) (nb 0 _) (ns _ _ _) (ns _ _ _) nf) (by simp) f
  exact ⟨fun v l h => a5 _ _ (a4 _ _ (a3 _ _ (a2 _ _ (a1 _ _ h)))), fun v xs hp h => b5 _ _ hp (b4 _ _ hp (b3 _ _ hp (b2 _ _ hp (b1 _ _ hp h)))), fun g j hg => (d5 _ _ hg).trans ((d4 _ _ hg).trans ((d3 _ _ hg).trans ((d2 _ _ hg).trans (d1 _ _ hg))))⟩

theorem spread_box {w : World} {R : Nat} {y0 y1 y2 y3 y4 x0 x1 x2 x3 x4 : Value} {t : TypeId} (hR : Box w R #[x0, x1, x2, x3, x4] t) :
    Box (((((w.setCell ⟨R, 0, none⟩ y0).setCell ⟨R, 1, none⟩ y1).setCell ⟨R, 2, none⟩ y2).setCell ⟨R, 3, none⟩ y3).setCell ⟨R, 4, none⟩ y4) R #[y0, y1, y2, y3, y4] t := by
  have := ((((hR.set 0 y0).set 1 y1).set 2 y2).set 3 y3).set 4 y4
  simpa using this
theorem spread_below {B : Nat} {w w5 : World} {R : Nat} {y0 y1 y2 y3 y4 : Value} (h : Below B w w5) (hR : B ≤ R) :
    Below B w (((((w5.setCell ⟨R, 0, none⟩ y0).setCell ⟨R, 1, none⟩ y1).setCell ⟨R, 2, none⟩ y2).setCell ⟨R, 3, none⟩ y3).setCell ⟨R, 4, none⟩ y4) :=
  ((((h.setCell hR _).setCell hR _).setCell hR _).setCell hR _).setCell hR _
theorem Box.cells5 {w : World} {R : Nat} {y0 y1 y2 y3 y4 : Value} {t : TypeId} (h : Box w R #[y0, y1, y2, y3, y4] t) : w.cell? ⟨R, 0, none⟩ = some y0 ∧ w.cell? ⟨R, 1, none⟩ = some y1 ∧ w.cell? ⟨R, 2, none⟩ = some y2 ∧ w.cell? ⟨R, 3, none⟩ = some y3 ∧ w.cell? ⟨R, 4, none⟩ = some y4 :=
  ⟨h.cell 0, h.cell 1, h.cell 2, h.cell 3, h.cell 4⟩

end Go.Proofs.Ytaojdlcailpheaa

namespace Go.Proofs.Ytaojdlcailpheaa
open Go.RowKit

theorem ex_eq (a c n k : Nat) : ch n k * (a ^ k * c ^ (n - k)) = ex a c n k := by unfold ex; rw [Nat.mul_comm]

end Go.Proofs.Ytaojdlcailpheaa
