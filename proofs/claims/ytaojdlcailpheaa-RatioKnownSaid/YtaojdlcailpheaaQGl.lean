/- Regions that draw their order, by an invariant: what an operation yields, by kinds; a variable that is written over last. -/
import Derived.Test.YtaojdlcailpheaaQGk
set_option linter.unusedVariables false
namespace Go.Proofs.Ytaojdlcailpheaa
open Go.RowKit

/-- What an operation yields. -/
inductive Kd where
  | any
  | eq (u : Value)
  | isF (x : F)
  | tup (x : F) (e : Int)
  | nat (n : Nat)
  | two (m n : Nat)
def Kd.holds (k : Kd) (v : Value) (w : World) : Prop := match k with
  | .any => True
  | .eq u => v = u
  | .isF x => IsF w v x
  | .tup x e => ∃ u, v = .tuple #[u, .int .i64 e] ∧ IsF w u x
  | .nat n => Sl w v (limbs n)
  | .two m n => ∃ u u', v = .tuple #[u, u'] ∧ Sl w u (limbs m) ∧ Sl w u' (limbs n)
def SK (K : Nat → Kd) (k : Nat) (v : Value) (w : World) : Prop := (K k).holds v w
section
variable {K : Nat → Kd} {k : Nat} {v : Value} {w w' : World}
theorem SK.fx {S : Nat → Prop} (h : SK K k v w) (hf : Fx S w w') (hr : ∀ g, S g → ¬ Tag32 w g) : SK K k v w' := by
  unfold SK at h ⊢
  generalize K k = κ at h ⊢
  cases κ with
  | any => trivial
  | eq u => exact h
  | isF x => exact IsF.fxr h hf hr
  | tup x e =>
    obtain ⟨u, e1, hu⟩ := h
    exact ⟨u, e1, hu.fxr hf hr⟩
  | nat n => exact Sl.fx h hf hr
  | two m n =>
    obtain ⟨u, u', e1, hu, hu'⟩ := h
    exact ⟨u, u', e1, hu.fx hf hr, hu'.fx hf hr⟩
theorem SK.keep (h : SK K k v w) (hb : Below w.heap.size w w') : SK K k v w' := h.fx (S := fun _ => False) (Fx.of_below hb) (fun _ e => e.elim)
theorem SK.of (κ : Kd) (hk : K k = κ) (h : κ.holds v w) : SK K k v w := by unfold SK; rw [hk]; exact h
end
/-- A variable that is written over by operation i0. -/
def CO1 (W0 : World) (i0 B : Nat) (X : F) (l : Array Bool) (_ : Nat → Value) (w : World) : Prop :=
  (¬ up l i0 → Below W0.heap.size W0 w) ∧ (up l i0 → Fx (fun g => g = B) W0 w ∧ VarF w B X)
section
variable {W0 : World} {i0 B : Nat} {X : F} {l : Array Bool} {f g : Nat → Value} {w w' : World}
theorem CO1.start {n : Nat} : CO1 W0 i0 B X (Array.replicate n false) f W0.drew := ⟨fun _ => below_dr (Below.refl _ _), fun h => absurd h (up_none _ _)⟩
theorem CO1.keep {i : Nat} (h : CO1 W0 i0 B X l f w) (hb : Below w.heap.size w w') (hi : i0 ≠ i) : CO1 W0 i0 B X (l.setIfInBounds i true) g w' := by
  obtain ⟨k1, k2⟩ := h
  refine ⟨fun u => ?_, fun u => ?_⟩
  · have k := k1 (fun u' => u (up_keep u'))
    exact k.trans (hb.mono k.size)
  · obtain ⟨a, b⟩ := k2 (up_set u hi)
    exact ⟨a.below hb, b.after hb⟩
theorem CO1.put {u0 u1 u2 va vb : Value} (h : CO1 W0 i0 B X l f w) (hn : ¬ up l i0) (hl : i0 < l.size) (hB : Box w B #[u0, u1, u2] 25) (h1 : Sl w va X.num) (h2 : Sl w vb X.den) :
    CO1 W0 i0 B X (l.setIfInBounds i0 true) g (((w.setCell ⟨B, 0, none⟩ (.bool X.neg)).setCell ⟨B, 1, none⟩ va).setCell ⟨B, 2, none⟩ vb) := by
  have hf := fx_set3 (w := w) B (.bool X.neg) va vb
  refine ⟨fun u => absurd (up_self hl) u, fun _ => ⟨(Fx.of_below (h.1 hn)).trans hf, ?_⟩⟩
  exact ⟨_, _, end_box hB, h1.fx hf hB.noT, h2.fx hf hB.noT⟩
end
end Go.Proofs.Ytaojdlcailpheaa
