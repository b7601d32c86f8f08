/- Regions that draw their order, by an invariant: guarded operations outside of rounds; regions that only read and call. -/
import Derived.Test.YtaojdlcailpheaaK30
import Derived.Test.YtaojdlcailpheaaQMO
set_option linter.unusedVariables false
namespace Go.Proofs.Ytaojdlcailpheaa
open Go.RowKit

section
variable {ops : Array Oper} {S : Array Bool → Nat → Value → World → Prop} {C : Array Bool → (Nat → Value) → World → Prop} {a0 a : Act} {listed : Array Bool} {w w' : World}
/-- A guarded operation that is wanted. -/
theorem GJ.yes {P : Program} {Q : Exit → Act → World → Prop} {i j tj : Nat} {b c : Bool} {o oj : Oper} (h : GJ ops S C a0 listed a w) (hd : dstOnce ops = true) (hr : i ∈ Region.ready .any ops listed) (ho : ops[i]? = some o) (D : List Nat) (hD : dstIn ops D a0.tmps.size = true)
    (hg : o.guard = some (j, b)) (hj : ops[j]? = some oj) (htj : oj.dst = some tj) (hv : a.tmps.getD tj undef = .bool c) (hcb : (c == b) = true)
    (hrun : ∀ K : Act → World → Prop, (∀ v w', (∀ k v, k ≠ i → up listed k → S listed k v w → S (listed.setIfInBounds i true) k v w') → (∀ t, o.dst = some t → S (listed.setIfInBounds i true) i v w') →
      C (listed.setIfInBounds i true) (fun t => (a.put o.dst v).tmps.getD t undef) w' → K (a.put o.dst v) w') → o.wp P a w K Q) :
    OpOut P ops Q i (GJ ops S C a0 (listed.setIfInBounds i true)) a w := by
  have hk := hrun (GJ ops S C a0 (listed.setIfInBounds i true)) (fun v w' h1 h2 h3 => h.step hd hr ho (fun _ ht => (dstIn_spec hD ho ht).2) h1 h2 h3)
  refine ⟨?_⟩
  unfold wpOp
  simp only [ho]
  rw [if_pos (by rw [wanted_of hg hj htj hv]; exact hcb)]
  exact .inl hk
/-- A guarded operation that is not wanted. -/
theorem GJ.no {P : Program} {Q : Exit → Act → World → Prop} {i j tj : Nat} {b c : Bool} {o oj : Oper} (h : GJ ops S C a0 listed a w) (hd : dstOnce ops = true) (hr : i ∈ Region.ready .any ops listed) (ho : ops[i]? = some o) (D : List Nat) (hD : dstIn ops D a0.tmps.size = true)
    (hg : o.guard = some (j, b)) (hj : ops[j]? = some oj) (htj : oj.dst = some tj) (hv : a.tmps.getD tj undef = .bool c) (hcb : (c == b) = false)
    (hS : ∀ k v, k ≠ i → up listed k → S listed k v w → S (listed.setIfInBounds i true) k v w) (hv' : ∀ t, o.dst = some t → S (listed.setIfInBounds i true) i undef w)
    (hC : C (listed.setIfInBounds i true) (fun t => (a.put o.dst undef).tmps.getD t undef) w) :
    OpOut P ops Q i (GJ ops S C a0 (listed.setIfInBounds i true)) a w := by
  have hk := h.step (v := undef) (w' := w) hd hr ho (fun _ ht => (dstIn_spec hD ho ht).2) hS hv' hC
  refine ⟨?_⟩
  unfold wpOp
  simp only [ho]
  rw [if_neg (by rw [wanted_of hg hj htj hv, hcb]; simp)]
  exact hk
end
/-- As SV, and a fraction with its error. -/
def SX (P : Nat → Option F) (Q : Nat → Option Value) (T : Nat → Option (F × Int)) (k : Nat) (v : Value) (w : World) : Prop := SV P Q k v w ∧ ∀ r, T k = some r → ∃ u, v = .tuple #[u, .int .i64 r.2] ∧ IsF w u r.1
section
variable {P : Nat → Option F} {Q : Nat → Option Value} {T : Nat → Option (F × Int)} {k : Nat} {v : Value} {w w' : World}
theorem SX.fx {S : Nat → Prop} (h : SX P Q T k v w) (hf : Fx S w w') (hr : ∀ g, S g → ¬ Tag32 w g) : SX P Q T k v w' := ⟨h.1.fx hf hr, fun r hr' => by
  obtain ⟨u, e, hu⟩ := h.2 r hr'
  exact ⟨u, e, hu.fxr hf hr⟩⟩
theorem SX.keep (h : SX P Q T k v w) (hb : Below w.heap.size w w') : SX P Q T k v w' := h.fx (S := fun _ => False) (Fx.of_below hb) (fun _ e => e.elim)
theorem SX.isF {x : F} (hp : P k = some x) (hq : Q k = none) (ht : T k = none) (h : IsF w v x) : SX P Q T k v w := ⟨SV.isF hp hq h, fun r hr => by rw [ht] at hr; cases hr⟩
theorem SX.eq {u : Value} (hp : P k = none) (hq : Q k = some u) (ht : T k = none) : SX P Q T k u w := ⟨SV.eq hp hq, fun r hr => by rw [ht] at hr; cases hr⟩
theorem SX.any {u : Value} (hp : P k = none) (hq : Q k = none) (ht : T k = none) : SX P Q T k u w := ⟨SV.any hp hq, fun r hr => by rw [ht] at hr; cases hr⟩
theorem SX.tup {u : Value} {r : F × Int} (hp : P k = none) (hq : Q k = none) (ht : T k = some r) (h : IsF w u r.1) : SX P Q T k (.tuple #[u, .int .i64 r.2]) w := ⟨SV.any hp hq, fun r' hr => by rw [ht] at hr; injection hr with hr; subst hr; exact ⟨u, rfl, h⟩⟩
end
/-- Two variables that are written over, the second one last. -/
def C2 (W0 : World) (B1 B2 : Nat) (X Y : F) (l : Array Bool) (_ : Nat → Value) (w : World) : Prop :=
  (¬ up l 4 → Below W0.heap.size W0 w) ∧ (up l 4 → ¬ up l 5 → Fx (fun g => g = B1) W0 w ∧ VarF w B1 X) ∧ (up l 5 → Fx (fun g => g = B1 ∨ g = B2) W0 w ∧ VarF w B1 X ∧ VarF w B2 Y)
section
variable {W0 : World} {B1 B2 : Nat} {X Y : F} {l : Array Bool} {f g : Nat → Value} {w w' : World}
theorem C2.start {n : Nat} : C2 W0 B1 B2 X Y (Array.replicate n false) f W0.drew := ⟨fun _ => below_dr (Below.refl _ _), fun h => absurd h (up_none _ _), fun h => absurd h (up_none _ _)⟩
theorem C2.keep {i : Nat} (h : C2 W0 B1 B2 X Y l f w) (hb : Below w.heap.size w w') (h4 : 4 ≠ i) (h5 : 5 ≠ i) : C2 W0 B1 B2 X Y (l.setIfInBounds i true) g w' := by
  obtain ⟨k1, k2, k3⟩ := h
  refine ⟨fun u => ?_, fun u u' => ?_, fun u => ?_⟩
  · have k := k1 (fun u' => u (up_keep u'))
    exact k.trans (hb.mono k.size)
  · obtain ⟨a, b⟩ := k2 (up_set u h4) (fun u'' => u' (up_keep u''))
    exact ⟨a.below hb, b.after hb⟩
  · obtain ⟨a, b, c⟩ := k3 (up_set u h5)
    exact ⟨a.below hb, b.after hb, c.after hb⟩
theorem C2.put4 {u0 u1 u2 va vb : Value} (h : C2 W0 B1 B2 X Y l f w) (hn : ¬ up l 4) (hn5 : ¬ up l 5) (hl : 4 < l.size) (hB : Box w B1 #[u0, u1, u2] 25) (h1 : Sl w va X.num) (h2 : Sl w vb X.den) :
    C2 W0 B1 B2 X Y (l.setIfInBounds 4 true) g (((w.setCell ⟨B1, 0, none⟩ (.bool X.neg)).setCell ⟨B1, 1, none⟩ va).setCell ⟨B1, 2, none⟩ vb) := by
  have hf := fx_set3 (w := w) B1 (.bool X.neg) va vb
  refine ⟨fun u => absurd (up_self hl) u, fun _ _ => ⟨(Fx.of_below (h.1 hn)).trans hf, ?_⟩, fun u => absurd (up_set u (by omega)) hn5⟩
  exact ⟨_, _, end_box hB, h1.fx hf hB.noT, h2.fx hf hB.noT⟩
theorem C2.put5 {u0 u1 u2 va vb : Value} (h : C2 W0 B1 B2 X Y l f w) (hu : up l 4) (hn5 : ¬ up l 5) (hl : 5 < l.size) (hne : B1 ≠ B2) (hB : Box w B2 #[u0, u1, u2] 25) (h1 : Sl w va Y.num) (h2 : Sl w vb Y.den) :
    C2 W0 B1 B2 X Y (l.setIfInBounds 5 true) g (((w.setCell ⟨B2, 0, none⟩ (.bool Y.neg)).setCell ⟨B2, 1, none⟩ va).setCell ⟨B2, 2, none⟩ vb) := by
  have hf := fx_set3 (w := w) B2 (.bool Y.neg) va vb
  obtain ⟨a, b⟩ := h.2.1 hu hn5
  refine ⟨fun u => absurd (up_keep hu) u, fun _ u => absurd (up_self hl) u, fun _ => ⟨(a.mono (fun _ e => .inl e)).trans (hf.mono (fun _ e => .inr e)), b.fxr hf hne hB.noT, ?_⟩⟩
  exact ⟨_, _, end_box hB, h1.fx hf hB.noT, h2.fx hf hB.noT⟩
end
theorem Sl.one_cell {w : World} {v : Value} {x : Nat} (h : Sl w v [x]) : ∃ b off cap, v = .slice (some ⟨b, off, none⟩) 1 cap ∧ 1 ≤ cap ∧ cap ≤ 9223372036854775807 ∧ w.cell? ⟨b, off, none⟩ = some (.int .u32 ((x : Nat) : Int)) ∧ b < w.heap.size := by
  obtain ⟨_, a, cap, rfl, h2, h3, _, h6⟩ := h
  obtain ⟨b, off, rfl, hb, hc⟩ := h6 (by simp)
  have := hc 0 (by simp)
  rw [lim_cons_zero] at this
  exact ⟨b, off, cap, rfl, h2, h3, this, hb⟩
theorem isF_arg {w : World} {v : Value} {x : F} (h : IsF w v x) : IsFA w v x := by
  obtain ⟨va, vb, rfl, h1, h2⟩ := h
  have t : ∀ {u : Value} {l : List Nat}, Sl w u l → SlA w u l := fun h => by
    obtain ⟨h0, a, cap, e1, e2, e3, e5, e6⟩ := h
    exact ⟨h0, a, cap, e1, e2, e3, e5.1, e6⟩
  exact ⟨va, vb, rfl, t h1, t h2⟩
theorem cut40_idem (x : F) : cut40 (cut40 x) = cut40 x := by
  unfold cut40
  simp [List.take_take]
theorem same_yes (w : World) (v u : Value) (x : F) (h : IsF w v x) (k : IsF w u x) : Calls Try.prog 23 #[v, u] w fun e w' => e = .returned (.bool true) ∧ Below w.heap.size w w' :=
  (Same_c w v u x x h k).mono (fun _ _ hr => hr.yes rfl)
/-- own of a fraction that is its own already. -/
theorem own_is (w : World) (v : Value) (x : F) (hx : cut40 x = x) (h : IsF w v x) : Calls Try.prog 13 #[v] w (RetF1 w x) := by
  have := own40_a w v x (isF_arg h)
  rw [hx] at this
  exact this
end Go.Proofs.Ytaojdlcailpheaa
