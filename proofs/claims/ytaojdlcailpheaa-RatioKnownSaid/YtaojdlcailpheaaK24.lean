/- Walks of package ratio: Nearest. -/
import Derived.Test.YtaojdlcailpheaaK21
import Derived.Test.YtaojdlcailpheaaK22
import Derived.Test.YtaojdlcailpheaaK23
import Derived.Test.YtaojdlcailpheaaK02
set_option linter.unusedVariables false
namespace Go.Proofs.Ytaojdlcailpheaa
open Go.RowKit Go.Shelf
attribute [local go_sem] Oper.semAt_some

theorem keep1x {W : World} {X R : Nat} {a b c u0 : Value} (h : R ≠ X) (k : W.cell? ⟨X, 0, none⟩ = some a ∧ W.cell? ⟨X, 1, none⟩ = some b ∧ W.cell? ⟨X, 2, none⟩ = some c) :
    (W.setCell ⟨R, 0, none⟩ u0).cell? ⟨X, 0, none⟩ = some a ∧ (W.setCell ⟨R, 0, none⟩ u0).cell? ⟨X, 1, none⟩ = some b ∧ (W.setCell ⟨R, 0, none⟩ u0).cell? ⟨X, 2, none⟩ = some c := by
  have g : ∀ j, (W.setCell ⟨R, 0, none⟩ u0).cell? ⟨X, j, none⟩ = W.cell? ⟨X, j, none⟩ := fun j => World.cell?_setCell_far _ _ _ _ h
  exact ⟨(g 0).trans k.1, (g 1).trans k.2.1, (g 2).trans k.2.2⟩
theorem keep3x {W : World} {X R : Nat} {a b c u0 u1 u2 : Value} (h : R ≠ X) (k : W.cell? ⟨X, 0, none⟩ = some a ∧ W.cell? ⟨X, 1, none⟩ = some b ∧ W.cell? ⟨X, 2, none⟩ = some c) :
    (((W.setCell ⟨R, 0, none⟩ u0).setCell ⟨R, 1, none⟩ u1).setCell ⟨R, 2, none⟩ u2).cell? ⟨X, 0, none⟩ = some a ∧ (((W.setCell ⟨R, 0, none⟩ u0).setCell ⟨R, 1, none⟩ u1).setCell ⟨R, 2, none⟩ u2).cell? ⟨X, 1, none⟩ = some b ∧ (((W.setCell ⟨R, 0, none⟩ u0).setCell ⟨R, 1, none⟩ u1).setCell ⟨R, 2, none⟩ u2).cell? ⟨X, 2, none⟩ = some c := by
  have g : ∀ j, (((W.setCell ⟨R, 0, none⟩ u0).setCell ⟨R, 1, none⟩ u1).setCell ⟨R, 2, none⟩ u2).cell? ⟨X, j, none⟩ = W.cell? ⟨X, j, none⟩ := fun j => (World.cell?_setCell_far _ _ _ _ h).trans ((World.cell?_setCell_far _ _ _ _ h).trans (World.cell?_setCell_far _ _ _ _ h))
  exact ⟨(g 0).trans k.1, (g 1).trans k.2.1, (g 2).trans k.2.2⟩
/-- What Nearest leaves in its two result variables. -/
def EndN (w W : World) (x : F) (e : Int) : Prop := ∃ va vb, Box W (w.heap.size + 1) #[.bool x.neg, va, vb] 25 ∧ Box W (w.heap.size + 1 + 1) #[.int .i64 e] 27 ∧ Sl W va x.num ∧ Sl W vb x.den ∧ Below w.heap.size w W
theorem EndN.soft {w W W' : World} {x : F} {e : Int} {l : Nat} (h : EndN w W x e) (hs : Soft W l) (hl : w.heap.size ≤ l) (hg : W.grownBy W' (some l)) : EndN w W' x e := by
  obtain ⟨va, vb, h1, h2, h3, h4, h5⟩ := h
  exact ⟨va, vb, h1.soft hs hg, h2.soft hs hg, h3.grown hg hs.noTag, h4.grown hg hs.noTag, h5.grown hg h5.size (fun g e => by injection e with e; omega)⟩
/-- The three results stored, and the error. -/
theorem end_near {w w1 : World} {x : F} {e e0 : Int} {n0 : Bool} {x1 x2 va vb : Value} (hR : Box w1 (w.heap.size + 1) #[.bool n0, x1, x2] 25) (hE : Box w1 (w.heap.size + 1 + 1) #[.int .i64 e0] 27)
    (hx1 : ∀ x, x1 ≠ .int .u32 x) (hx2 : ∀ x, x2 ≠ .int .u32 x) (h1 : Sl w1 va x.num) (h2 : Sl w1 vb x.den) (hb : Below w.heap.size w w1) :
    EndN w ((((w1.setCell ⟨w.heap.size + 1, 0, none⟩ (.bool x.neg)).setCell ⟨w.heap.size + 1, 1, none⟩ va).setCell ⟨w.heap.size + 1, 2, none⟩ vb).setCell ⟨w.heap.size + 1 + 1, 0, none⟩ (.int .i64 e)) x e := by
  have hr := IsF.result (neg := x.neg) hR hx1 hx2 h1 h2
  have b1 := end_box hR (y0 := .bool x.neg) (y1 := va) (y2 := vb)
  have e1 := far_box (y0 := .bool x.neg) (y1 := va) (y2 := vb) hE (show w.heap.size + 1 + 1 ≠ w.heap.size + 1 by omega) (R := w.heap.size + 1)
  have bw : Below w.heap.size w (((w1.setCell ⟨w.heap.size + 1, 0, none⟩ (.bool x.neg)).setCell ⟨w.heap.size + 1, 1, none⟩ va).setCell ⟨w.heap.size + 1, 2, none⟩ vb) := ((hb.setCell (Nat.le_succ _) _).setCell (Nat.le_succ _) _).setCell (Nat.le_succ _) _
  obtain ⟨_, _, ee, s1, s2⟩ := hr
  have e2 := e1.set 0 (.int .i64 e)
  have nn : NoU #[.int .i64 e0] := by intro i x; match i with
    | 0 => simp
    | k + 1 => simp
  injection ee with ee
  have ee2 := congrArg Array.toList ee
  simp only [List.cons.injEq, and_true] at ee2
  obtain ⟨_, rfl, rfl⟩ := ee2
  exact ⟨va, vb, b1.far (by simp) _, by simpa using e2, s1.box e1 nn 0 _, s2.box e1 nn 0 _, bw.setCell (by show w.heap.size ≤ w.heap.size + 1 + 1; omega) _⟩
theorem KeepSoft.end_near {B : Nat} {w0 w1 : World} {R E : Nat} {x0 x1 x2 e0 a b c d : Value} {t t' : TypeId} (h : KeepSoft B w0 w1) (hR : Box w1 R #[x0, x1, x2] t) (hE : Box w1 E #[e0] t') (hne : E ≠ R) :
    KeepSoft B w0 ((((w1.setCell ⟨R, 0, none⟩ a).setCell ⟨R, 1, none⟩ b).setCell ⟨R, 2, none⟩ c).setCell ⟨E, 0, none⟩ d) := by
  have r1 := hR.set 0 a
  have r2 := r1.set 1 b
  have e1 := far_box (y0 := a) (y1 := b) (y2 := c) hE hne
  obtain ⟨c0, c1, c2⟩ := hR.cells3
  have r1' : (w1.setCell ⟨R, 0, none⟩ a).cell? ⟨R, 1, none⟩ = some x1 := (World.cell?_setCell_other _ _ _ _ (fun e => by injection e with _ e; cases e)).trans c1
  have r2' : ((w1.setCell ⟨R, 0, none⟩ a).setCell ⟨R, 1, none⟩ b).cell? ⟨R, 2, none⟩ = some x2 := (World.cell?_setCell_other _ _ _ _ (fun e => by injection e with _ e; cases e)).trans ((World.cell?_setCell_other _ _ _ _ (fun e => by injection e with _ e; cases e)).trans c2)
  exact (((h.setCell c0).setCell r1').setCell r2').setCell (e1.cell 0)

/-- Where the loop of Nearest stands. -/
def NJ (N a b M : Nat) (fin : Ch) (L : List Nat) (C : Nat) (W1 : World) (r : Nat) (W : World) : Prop := ∃ (A B : Nat) (ch : Ch) (s : Int), VarC W C ch ∧ Fx (fun g => g = C) W1 W ∧ NI N a b ch A B s ∧ nearL N ch (L.drop r) = fin ∧ (r < L.length → 0 < B ∧ cf A B = L.drop r) ∧ (L.length ≤ r → B = 0) ∧ A ≤ M ∧ B ≤ M
theorem VarC.soft {W W' : World} {C l : Nat} {ch : Ch} (h : VarC W C ch) (hs : Soft W l) (hg : W.grownBy W' (some l)) : VarC W' C ch := by
  obtain ⟨v0, v1, v2, v3, hb, u0, u1, u2, u3, e, h0, h1, h2, h3⟩ := h
  exact ⟨v0, v1, v2, v3, hb.soft hs hg, u0, u1, u2, u3, e, h0.grown hg hs.noTag, h1.grown hg hs.noTag, h2.grown hg hs.noTag, h3.grown hg hs.noTag⟩
theorem NJ.after {N a b M : Nat} {fin : Ch} {L : List Nat} {C : Nat} {W1 W W' : World} {r : Nat} (h : NJ N a b M fin L C W1 r W) (hb : Below W.heap.size W W') : NJ N a b M fin L C W1 r W' := by
  obtain ⟨A, B, ch, s, h1, h2, h3⟩ := h
  exact ⟨A, B, ch, s, h1.after hb, h2.below hb, h3⟩
theorem NJ.soft {N a b M : Nat} {fin : Ch} {L : List Nat} {C : Nat} {W1 W W' : World} {r l : Nat} (h : NJ N a b M fin L C W1 r W) (hl : W1.heap.size ≤ l) (hs : Soft W l) (hg : W.grownBy W' (some l)) : NJ N a b M fin L C W1 r W' := by
  obtain ⟨A, B, ch, s, h1, h2, h3⟩ := h
  exact ⟨A, B, ch, s, h1.soft hs hg, h2.new hg hl, h3⟩
theorem IsC.fx {S : Nat → Prop} {w W : World} {v : Value} {c : Ch} (h : IsC w v c) (hf : Fx S w W) (hr : ∀ g, S g → ¬ Tag32 w g) : IsC W v c := by
  obtain ⟨u0, u1, u2, u3, e, h0, h1, h2, h3⟩ := h
  exact ⟨u0, u1, u2, u3, e, h0.fx hf hr, h1.fx hf hr, h2.fx hf hr, h3.fx hf hr⟩
theorem IsF.fxr {S : Nat → Prop} {w W : World} {v : Value} {x : F} (h : IsF w v x) (hf : Fx S w W) (hr : ∀ g, S g → ¬ Tag32 w g) : IsF W v x := by
  obtain ⟨u0, u1, e, h0, h1⟩ := h
  exact ⟨u0, u1, e, h0.fx hf hr, h1.fx hf hr⟩
theorem fx_set3 {w : World} (b : Nat) (x y z : Value) : Fx (fun g => g = b) w (((w.setCell ⟨b, 0, none⟩ x).setCell ⟨b, 1, none⟩ y).setCell ⟨b, 2, none⟩ z) := (Fx.refl _ w).of (grown_set3 w b x y z) rfl
theorem fx_set1 {w : World} (b : Nat) (x : Value) : Fx (fun g => g = b) w (w.setCell ⟨b, 0, none⟩ x) := (Fx.refl _ w).of (grown_set w b 0 x) rfl
theorem Box.noT {w : World} {b : Nat} {cs : Array Value} (h : Box w b cs 25) : ∀ g, g = b → ¬ Tag32 w g := fun g e => by subst e; exact h.noTag (show 25 ≠ 51 by decide) _ rfl
/-- What region 15 holds. -/
def S15 (vC vq : Value) (y z : Ch) (k : Nat) (v : Value) (w : World) : Prop :=
  match k with
  | 0 => v = vC
  | 1 => v = vq
  | 2 => IsC w v y
  | 3 => IsF w v (fr false y.num y.den)
  | 4 => v = vC
  | 5 => IsF w v (fr false z.num z.den)
  | _ => True
theorem S15.fx {vC vq : Value} {y z : Ch} {k : Nat} {v : Value} {S : Nat → Prop} {w w' : World} (h : S15 vC vq y z k v w) (hf : Fx S w w') (hr : ∀ g, S g → ¬ Tag32 w g) : S15 vC vq y z k v w' := by
  unfold S15 at h ⊢
  split at h
  · exact h
  · exact h
  · exact h.fx hf hr
  · exact h.fxr hf hr
  · exact h
  · exact h.fxr hf hr
  · trivial
theorem S15.keep {vC vq : Value} {y z : Ch} {k : Nat} {v : Value} {w w' : World} (h : S15 vC vq y z k v w) (hb : Below w.heap.size w w') : S15 vC vq y z k v w' := h.fx (S := fun _ => False) (Fx.of_below hb) (fun _ e => e.elim)
def zeroB (w : World) (b : Nat) : Prop := Box w b #[.bool false, .slice none 0 0, .slice none 0 0] 25
/-- A variable that a region lays and fills. -/
def Laid (W0 : World) (l : Array Bool) (j : Nat) (x : F) (v : Value) (w : World) : Prop := ∃ b, v = .pointer (some ⟨b, 0, none⟩) ∧ W0.heap.size ≤ b ∧ b < w.heap.size ∧ (up l j → VarF w b x) ∧ (¬ up l j → zeroB w b)
theorem Laid.keep {W0 : World} {l : Array Bool} {i j : Nat} {x : F} {v : Value} {w w' : World} (h : Laid W0 l j x v w) (hb : Below w.heap.size w w') (hij : j ≠ i) : Laid W0 (l.setIfInBounds i true) j x v w' := by
  obtain ⟨b, h1, h2, h3, h4, h5⟩ := h
  exact ⟨b, h1, h2, Nat.lt_of_lt_of_le h3 hb.size, fun g => (h4 (up_set g hij)).after hb, fun g => (h5 (fun g' => g (up_keep g'))).after hb⟩
theorem Laid.new (w W0 : World) {l : Array Bool} {i j : Nat} {x : F} (hb : Below W0.heap.size W0 w) (hn : ¬ up l j) (hij : j ≠ i) : Laid W0 (l.setIfInBounds i true) j x (.pointer (some ⟨w.heap.size, 0, none⟩)) (w.alloc (.cells #[.bool false, .slice none 0 0, .slice none 0 0] 25)) :=
  ⟨w.heap.size, rfl, hb.size, by simp, fun g => absurd (up_set g hij) hn, fun _ => Box.new w _ _⟩
/-- The two variables of region 15. -/
def C15 (W0 : World) (y z : F) (l : Array Bool) (f : Nat → Value) (w : World) : Prop := Below W0.heap.size W0 w ∧ (up l 6 → Laid W0 l 8 y (f 12) w) ∧ (up l 7 → Laid W0 l 9 z (f 13) w) ∧ (up l 6 → up l 7 → f 12 ≠ f 13)
theorem C15.keep {W0 : World} {y z : F} {l : Array Bool} {i : Nat} {f g : Nat → Value} {w w' : World} (h : C15 W0 y z l f w) (hb : Below w.heap.size w w') (h6 : 6 ≠ i) (h7 : 7 ≠ i) (h8 : 8 ≠ i) (h9 : 9 ≠ i) (e1 : g 12 = f 12) (e2 : g 13 = f 13) : C15 W0 y z (l.setIfInBounds i true) g w' := by
  obtain ⟨k1, k2, k3, k4⟩ := h
  refine ⟨k1.trans (hb.mono k1.size), fun u => ?_, fun u => ?_, fun u u' => ?_⟩
  · rw [e1]; exact (k2 (up_set u h6)).keep hb h8
  · rw [e2]; exact (k3 (up_set u h7)).keep hb h9
  · rw [e1, e2]; exact k4 (up_set u h6) (up_set u' h7)
theorem C15.new6 {W0 : World} {y z : F} {l : Array Bool} {f g : Nat → Value} {w : World} (h : C15 W0 y z l f w) (hn : ¬ up l 8) (e1 : g 12 = .pointer (some ⟨w.heap.size, 0, none⟩)) (e2 : g 13 = f 13) :
    C15 W0 y z (l.setIfInBounds 6 true) g (w.alloc (.cells #[.bool false, .slice none 0 0, .slice none 0 0] 25)) := by
  obtain ⟨k1, k2, k3, k4⟩ := h
  have hb : Below w.heap.size w (w.alloc (.cells #[.bool false, .slice none 0 0, .slice none 0 0] 25)) := held_alloc (Below.refl _ _)
  refine ⟨k1.trans (hb.mono k1.size), fun u => ?_, fun u => ?_, fun u u' => ?_⟩
  · rw [e1]; exact Laid.new w W0 k1 hn (by omega)
  · rw [e2]; exact (k3 (up_set u (by omega))).keep hb (by omega)
  · rw [e1, e2]
    obtain ⟨b, hb', _, hlt, _⟩ := k3 (up_set u' (by omega))
    rw [hb']
    intro e
    injection e with e; injection e with e; injection e with e
    omega
theorem C15.new7 {W0 : World} {y z : F} {l : Array Bool} {f g : Nat → Value} {w : World} (h : C15 W0 y z l f w) (hn : ¬ up l 9) (e1 : g 13 = .pointer (some ⟨w.heap.size, 0, none⟩)) (e2 : g 12 = f 12) :
    C15 W0 y z (l.setIfInBounds 7 true) g (w.alloc (.cells #[.bool false, .slice none 0 0, .slice none 0 0] 25)) := by
  obtain ⟨k1, k2, k3, k4⟩ := h
  have hb : Below w.heap.size w (w.alloc (.cells #[.bool false, .slice none 0 0, .slice none 0 0] 25)) := held_alloc (Below.refl _ _)
  refine ⟨k1.trans (hb.mono k1.size), fun u => ?_, fun u => ?_, fun u u' => ?_⟩
  · rw [e2]; exact (k2 (up_set u (by omega))).keep hb (by omega)
  · rw [e1]; exact Laid.new w W0 k1 hn (by omega)
  · rw [e1, e2]
    obtain ⟨b, hb', _, hlt, _⟩ := k2 (up_set u (by omega))
    rw [hb']
    intro e
    injection e with e; injection e with e; injection e with e
    omega
/-- A fraction stored into a variable of its own. -/
theorem VarF.put {w : World} {b : Nat} {x : F} {va vb : Value} (h : Box w b #[.bool false, .slice none 0 0, .slice none 0 0] 25) (k : IsF w (.agg #[.bool x.neg, va, vb]) x) :
    VarF (((w.setCell ⟨b, 0, none⟩ (.bool x.neg)).setCell ⟨b, 1, none⟩ va).setCell ⟨b, 2, none⟩ vb) b x := by
  have hf := fx_set3 (w := w) b (.bool x.neg) va vb
  obtain ⟨_, h1, h2⟩ := k.parts
  exact ⟨va, vb, end_box h, h1.fx hf (h.noT), h2.fx hf (h.noT)⟩
theorem VarF.fxr {S : Nat → Prop} {w W : World} {b : Nat} {x : F} (h : VarF w b x) (hf : Fx S w W) (hb : ¬ S b) (hr : ∀ g, S g → ¬ Tag32 w g) : VarF W b x := by
  obtain ⟨va, vb, h1, h2, h3⟩ := h
  exact ⟨va, vb, h1.fx hf hb, h2.fx hf hr, h3.fx hf hr⟩
theorem C15.put8 {W0 : World} {y z : F} {l : Array Bool} {f g : Nat → Value} {w : World} {b : Nat} {va vb : Value} (h : C15 W0 y z l f w) (hs : 8 < l.size) (hu : up l 6) (hu7 : up l 7) (hn : ¬ up l 9) (hb : f 12 = .pointer (some ⟨b, 0, none⟩)) (hz : zeroB w b) (k : IsF w (.agg #[.bool y.neg, va, vb]) y) (e1 : g 12 = f 12) (e2 : g 13 = f 13) :
    C15 W0 y z (l.setIfInBounds 8 true) g (((w.setCell ⟨b, 0, none⟩ (.bool y.neg)).setCell ⟨b, 1, none⟩ va).setCell ⟨b, 2, none⟩ vb) := by
  obtain ⟨k1, k2, k3, k4⟩ := h
  have hW : W0.heap.size ≤ b := by obtain ⟨b', e, h2, _⟩ := k2 hu; rw [hb] at e; injection e with e; injection e with e; injection e with e; omega
  have hlt : b < w.heap.size := Box.lt hz
  have hf := fx_set3 (w := w) b (.bool y.neg) va vb
  refine ⟨((k1.setCell hW _).setCell hW _).setCell hW _, fun u => ?_, fun u => ?_, fun u u' => ?_⟩
  · rw [e1]
    exact ⟨b, hb, hW, Nat.lt_of_lt_of_le hlt hf.size, fun _ => VarF.put hz k, fun g => absurd (up_self hs) g⟩
  · rw [e2]
    obtain ⟨c, h1, h2, h3, h4, h5⟩ := k3 hu7
    have hcb : ¬ c = b := fun e => k4 hu hu7 (by rw [hb, h1, e])
    exact ⟨c, h1, h2, Nat.lt_of_lt_of_le h3 hf.size, fun g => absurd (up_set g (by omega)) hn, fun _ => Box.fx (h5 hn) hf hcb⟩
  · rw [e1, e2]; exact k4 hu hu7
theorem C15.put9 {W0 : World} {y z : F} {l : Array Bool} {f g : Nat → Value} {w : World} {c : Nat} {va vb : Value} (h : C15 W0 y z l f w) (hs : 9 < l.size) (hu : up l 6) (hu7 : up l 7) (hu8 : up l 8) (hb : f 13 = .pointer (some ⟨c, 0, none⟩)) (hz : zeroB w c) (k : IsF w (.agg #[.bool z.neg, va, vb]) z) (e1 : g 12 = f 12) (e2 : g 13 = f 13) :
    C15 W0 y z (l.setIfInBounds 9 true) g (((w.setCell ⟨c, 0, none⟩ (.bool z.neg)).setCell ⟨c, 1, none⟩ va).setCell ⟨c, 2, none⟩ vb) := by
  obtain ⟨k1, k2, k3, k4⟩ := h
  have hW : W0.heap.size ≤ c := by obtain ⟨b', e, h2, _⟩ := k3 hu7; rw [hb] at e; injection e with e; injection e with e; injection e with e; omega
  have hlt : c < w.heap.size := Box.lt hz
  have hf := fx_set3 (w := w) c (.bool z.neg) va vb
  refine ⟨((k1.setCell hW _).setCell hW _).setCell hW _, fun u => ?_, fun u => ?_, fun u u' => ?_⟩
  · rw [e1]
    obtain ⟨b, h1, h2, h3, h4, h5⟩ := k2 hu
    have hcb : ¬ b = c := fun e => k4 hu hu7 (by rw [hb, h1, e])
    exact ⟨b, h1, h2, Nat.lt_of_lt_of_le h3 hf.size, fun _ => (h4 hu8).fxr hf hcb (Box.noT hz), fun g => absurd (up_keep hu8) g⟩
  · rw [e2]
    exact ⟨c, hb, hW, Nat.lt_of_lt_of_le hlt hf.size, fun _ => VarF.put hz k, fun g => absurd (up_self hs) g⟩
  · rw [e1, e2]; exact k4 hu hu7
/-- What region 16 holds. -/
def S16 (X b c : Nat) (s : Bool) (ly lz vy vz : Value) (yb zb : Bool) (k : Nat) (v : Value) : Prop :=
  match k with
  | 0 => v = .pointer (some ⟨X, 0, none⟩)
  | 1 => v = .bool s
  | 2 => v = .bool s
  | 3 => s = true → v = .pointer (some ⟨b, 1, none⟩)
  | 4 => s = true → v = vy
  | 5 => s = true → v = ly
  | 6 => s = true → v = .bool yb
  | 7 => v = .bool (s && yb)
  | 8 => v = .pointer (some ⟨X, 0, none⟩)
  | 9 => v = .bool s
  | 10 => v = .bool s
  | 11 => s = true → v = .pointer (some ⟨c, 1, none⟩)
  | 12 => s = true → v = vz
  | 13 => s = true → v = lz
  | 14 => s = true → v = .bool zb
  | 15 => v = .bool (s && zb)
  | 16 => v = .pointer (some ⟨b, 0, none⟩)
  | 18 => v = .pointer (some ⟨c, 0, none⟩)
  | _ => True
def C16 (W0 W1 W2 : World) (l : Array Bool) (w : World) : Prop := (¬ up l 17 → w = W0) ∧ (up l 17 → ¬ up l 19 → w = W1) ∧ (up l 19 → up l 17 ∧ w = W2)
theorem C16.keep {W0 W1 W2 w : World} {l : Array Bool} {i : Nat} (h : C16 W0 W1 W2 l w) (h1 : 17 ≠ i) (h2 : 19 ≠ i) : C16 W0 W1 W2 (l.setIfInBounds i true) w := by
  obtain ⟨k1, k2, k3⟩ := h
  exact ⟨fun g => k1 (fun g' => g (up_keep g')), fun g g2 => k2 (up_set g h1) (fun g' => g2 (up_keep g')), fun g => ⟨up_keep (k3 (up_set g h2)).1, (k3 (up_set g h2)).2⟩⟩
theorem C16.put17 {W0 W1 W2 w w' : World} {l : Array Bool} (h : C16 W0 W1 W2 l w) (hs : 17 < l.size) (hn : ¬ up l 19) (e : W1 = w') : C16 W0 W1 W2 (l.setIfInBounds 17 true) w' :=
  ⟨fun g => absurd (up_self hs) g, fun _ _ => e.symm, fun g => absurd (up_set g (by omega)) hn⟩
theorem C16.put19 {W0 W1 W2 w w' : World} {l : Array Bool} (h : C16 W0 W1 W2 l w) (hs : 19 < l.size) (hu : up l 17) (e : W2 = w') : C16 W0 W1 W2 (l.setIfInBounds 19 true) w' :=
  ⟨fun g => absurd (up_keep hu) g, fun _ g => absurd (up_self hs) g, fun _ => ⟨up_keep hu, e.symm⟩⟩
theorem C16.worlds {W0 W1 W2 w : World} {l : Array Bool} (h : C16 W0 W1 W2 l w) {P : World → Prop} (h0 : P W0) (h1 : P W1) (h2 : P W2) : P w := by
  obtain ⟨k1, k2, k3⟩ := h
  by_cases g : up l 17
  · by_cases g2 : up l 19
    · rw [(k3 g2).2]; exact h2
    · rw [k2 g g2]; exact h1
  · rw [k1 g]; exact h0
/-- What region 14 holds. -/
def S14 (C : Nat) (vm v3 v1 : Value) (d k' : Nat) (k : Nat) (v : Value) (w : World) : Prop :=
  match k with
  | 0 => v = vm
  | 1 => v = .pointer (some ⟨C, 3, none⟩)
  | 2 => v = v3
  | 3 => Sl w v (limbs d)
  | 4 => v = .pointer (some ⟨C, 1, none⟩)
  | 5 => v = v1
  | 6 => ∃ a b, v = .tuple #[a, b] ∧ Sl w a (limbs k')
  | 7 => ∃ a b, v = .tuple #[a, b] ∧ Sl w a (limbs k')
  | 8 => Sl w v (limbs k')
  | 10 => Sl w v (limbs k')
  | _ => True
theorem S14.keep {C : Nat} {vm v3 v1 : Value} {d k' : Nat} {k : Nat} {v : Value} {w w' : World} (h : S14 C vm v3 v1 d k' k v w) (hb : Below w.heap.size w w') : S14 C vm v3 v1 d k' k v w' := by
  unfold S14 at h ⊢
  split at h
  · exact h
  · exact h
  · exact h
  · exact h.after hb
  · exact h
  · exact h
  · obtain ⟨a, b, h1, h2⟩ := h; exact ⟨a, b, h1, h2.after hb⟩
  · obtain ⟨a, b, h1, h2⟩ := h; exact ⟨a, b, h1, h2.after hb⟩
  · exact h.after hb
  · exact h.after hb
  · trivial

set_option maxRecDepth 100000 in
set_option maxHeartbeats 16000000 in
theorem near_no (w : World) (v : Value) (x : F) (n : Int) (h : IsF w v x) (hv : ¬ ValidF x) : Calls Try.prog 41 #[v, .int .i64 n] w (RetF w (F0, 1)) := by
  have HX := h
  obtain ⟨va, vb, rfl, h1, h2⟩ := h
  obtain ⟨p0, k0, rfl, _, _⟩ := h1.shape
  obtain ⟨p1, k1, rfl, _, _⟩ := h2.shape
  obtain ⟨W0, hW⟩ : ∃ W0, W0 = ((w.alloc (.cells #[.bool x.neg, .slice p0 x.num.length k0, .slice p1 x.den.length k1] 25)).alloc (.cells #[.bool false, .slice none 0 0, .slice none 0 0] 25)).alloc (.cells #[.int .i64 0] 27) := ⟨_, rfl⟩
  have hb0 : Below w.heap.size w W0 := hW ▸ held_alloc (held_alloc (held_alloc (Below.refl _ w)))
  have bx : Box W0 w.heap.size #[.bool x.neg, .slice p0 x.num.length k0, .slice p1 x.den.length k1] 25 := hW ▸ ((Box.new w _ _).alloc _).alloc _
  have br : Box W0 (w.heap.size + 1) #[.bool false, .slice none 0 0, .slice none 0 0] 25 := by
    rw [hW]
    have := (Box.new (w.alloc (.cells #[.bool x.neg, .slice p0 x.num.length k0, .slice p1 x.den.length k1] 25)) #[.bool false, .slice none 0 0, .slice none 0 0] 25).alloc (.cells #[.int .i64 0] 27)
    simpa using this
  have be : Box W0 (w.heap.size + 1 + 1) #[.int .i64 0] 27 := by
    rw [hW]
    have := Box.new ((w.alloc (.cells #[.bool x.neg, .slice p0 x.num.length k0, .slice p1 x.den.length k1] 25)).alloc (.cells #[.bool false, .slice none 0 0, .slice none 0 0] 25)) #[.int .i64 0] 27
    simpa using this
  have HV := Lib.hid hv
  have H1 := Lib.hid (HX.after hb0)
  have BX := Lib.hid bx
  have BR := Lib.hid br
  have BE := Lib.hid be
  have HB0 := Lib.hid hb0
  obtain ⟨c0, c1, c2⟩ := bx.cells3
  have hlx := bx.lt
  clear HX h1 h2 bx br be hb0 hv
  go_enter Try.func41, Try.ntmps41
  go_upto_region 1 with fail
  rw [← hW]
  clear hW
  go_wp2_with fail
  refine (Valid_c _ _ _ H1.out).mono ?_
  intro e w1 hr
  obtain ⟨rfl, hb1⟩ := hr.no HV.out
  obtain ⟨wz, hwz⟩ : ∃ wz : World, wz = w1 := ⟨_, rfl⟩
  rw [← hwz] at hb1 ⊢
  clear hwz
  replace BR := Lib.hid (BR.out.after hb1)
  replace BE := Lib.hid (BE.out.after hb1)
  replace BX := Lib.hid (BX.out.after hb1)
  replace H1 := Lib.hid (H1.out.after hb1)
  replace HB0 := Lib.hid (HB0.out.trans (hb1.mono HB0.out.size))
  clear hr hb1 c0 c1 c2 hlx
  obtain ⟨r0, r1, r2⟩ := BR.out.cells3
  have f0 := BR.out.frozen 0
  have f1 := BR.out.frozen 1
  have f2 := BR.out.frozen 2
  have g0 : _ = _ := BE.out.cell 0
  have g1 := BE.out.frozen 0
  have hlr := BR.out.lt
  have hle := BE.out.lt
  have HEND := Lib.hid (end_near (x := F0) (e := 1) BR.out BE.out (fun _ h => by cases h) (fun _ h => by cases h) (Sl.nil _) (Sl.nil _) HB0.out)
  go_wp2_with fail
  obtain ⟨W5, hW5⟩ : ∃ W5, W5 = (((wz.setCell ⟨w.heap.size + 1, 0, none⟩ (.bool false)).setCell ⟨w.heap.size + 1, 1, none⟩ (.slice none 0 0)).setCell ⟨w.heap.size + 1, 2, none⟩ (.slice none 0 0)).setCell ⟨w.heap.size + 1 + 1, 0, none⟩ (.int .i64 1) := ⟨_, rfl⟩
  obtain ⟨v1, v2, b1, b2, s1, s2, hbel⟩ : EndN w W5 (F0) 1 := hW5 ▸ HEND.out
  rw [← hW5]
  clear hW5 HEND r0 r1 r2 f0 f1 f2 g0 g1
  obtain ⟨e0, e1, e2⟩ := b1.cells3
  have e3 : W5.cell? ⟨w.heap.size + 1 + 1, 0, none⟩ = some (.int .i64 1) := b2.cell 0
  refine bodyPost_ret (v := .tuple #[.agg #[.bool (F0).neg, v1, v2], .int .i64 1]) (by simp [results, Try.results41, go_sem, e0, e1, e2, e3]) rfl ?_
  exact ⟨_, rfl, IsF.at_ s1 s2, hbel⟩
set_option maxRecDepth 100000 in
set_option maxHeartbeats 16000000 in
theorem near_range (w : World) (v : Value) (s : Bool) (a b : Nat) (n : Int) (h : IsF w v (fr s a b)) (hok : Ok s a b) (hn : n < 1 ∨ 1000 < n) : Calls Try.prog 41 #[v, .int .i64 n] w (RetF w (F0, 2)) := by
  have HX := h
  obtain ⟨va, vb, rfl, h1, h2⟩ := h
  simp only [fr] at h1 h2
  obtain ⟨p0, k0, rfl, _, _⟩ := h1.shape
  obtain ⟨p1, k1, rfl, _, _⟩ := h2.shape
  obtain ⟨W0, hW⟩ : ∃ W0, W0 = ((w.alloc (.cells #[.bool s, .slice p0 (limbs a).length k0, .slice p1 (limbs b).length k1] 25)).alloc (.cells #[.bool false, .slice none 0 0, .slice none 0 0] 25)).alloc (.cells #[.int .i64 0] 27) := ⟨_, rfl⟩
  have hb0 : Below w.heap.size w W0 := hW ▸ held_alloc (held_alloc (held_alloc (Below.refl _ w)))
  have bx : Box W0 w.heap.size #[.bool s, .slice p0 (limbs a).length k0, .slice p1 (limbs b).length k1] 25 := hW ▸ ((Box.new w _ _).alloc _).alloc _
  have br : Box W0 (w.heap.size + 1) #[.bool false, .slice none 0 0, .slice none 0 0] 25 := by
    rw [hW]
    have := (Box.new (w.alloc (.cells #[.bool s, .slice p0 (limbs a).length k0, .slice p1 (limbs b).length k1] 25)) #[.bool false, .slice none 0 0, .slice none 0 0] 25).alloc (.cells #[.int .i64 0] 27)
    simpa using this
  have be : Box W0 (w.heap.size + 1 + 1) #[.int .i64 0] 27 := by
    rw [hW]
    have := Box.new ((w.alloc (.cells #[.bool s, .slice p0 (limbs a).length k0, .slice p1 (limbs b).length k1] 25)).alloc (.cells #[.bool false, .slice none 0 0, .slice none 0 0] 25)) #[.int .i64 0] 27
    simpa using this
  have HV := Lib.hid (validF_fr.2 hok)
  have H1 : Hid (IsF W0 (.agg #[.bool s, .slice p0 (limbs a).length k0, .slice p1 (limbs b).length k1]) (fr s a b)) := HX.after hb0
  have BX := Lib.hid bx
  have BR := Lib.hid br
  have BE := Lib.hid be
  have HB0 := Lib.hid hb0
  obtain ⟨c0, c1, c2⟩ := bx.cells3
  have hlx := bx.lt
  have la : (limbs a).length ≤ 32 := hok.n32
  have lb : (limbs b).length ≤ 32 := hok.d32
  have hbp : 0 < b := hok.pos
  have hcop : Hid (Nat.gcd a b = 1) := hok.gcd
  clear HX h1 h2 bx br be hb0 hok
  show Calls _ _ #[.agg #[.bool s, .slice p0 (limbs a).length k0, .slice p1 (limbs b).length k1], _] w _
  rcases Int.lt_or_le n 1 with hn1 | hn1
  · have hd1 : decide (n < 1) = true := decide_eq_true hn1
    clear hn hn1
    go_enter Try.func41, Try.ntmps41
    go_upto_region 1 with fail
    rw [← hW]
    clear hW
    go_wp2_with fail
    refine (Valid_c _ _ _ H1.out).mono ?_
    intro e w1 hr
    obtain ⟨rfl, hb1⟩ := hr.yes HV.out
    obtain ⟨wz, hwz⟩ : ∃ wz : World, wz = w1 := ⟨_, rfl⟩
    rw [← hwz] at hb1 ⊢
    clear hwz
    replace BR := Lib.hid (BR.out.after hb1)
    replace BE := Lib.hid (BE.out.after hb1)
    replace BX := Lib.hid (BX.out.after hb1)
    replace H1 := Lib.hid (H1.out.after hb1)
    replace HB0 := Lib.hid (HB0.out.trans (hb1.mono HB0.out.size))
    clear hr hb1 c0 c1 c2 hlx
    obtain ⟨r0, r1, r2⟩ := BR.out.cells3
    have f0 := BR.out.frozen 0
    have f1 := BR.out.frozen 1
    have f2 := BR.out.frozen 2
    have g0 : _ = _ := BE.out.cell 0
    have g1 := BE.out.frozen 0
    have hlr := BR.out.lt
    have hle := BE.out.lt
    have HEND := Lib.hid (end_near (x := F0) (e := 2) BR.out BE.out (fun _ h => by cases h) (fun _ h => by cases h) (Sl.nil _) (Sl.nil _) HB0.out)
    go_wp2_with fail
    obtain ⟨W5, hW5⟩ : ∃ W5, W5 = (((wz.setCell ⟨w.heap.size + 1, 0, none⟩ (.bool false)).setCell ⟨w.heap.size + 1, 1, none⟩ (.slice none 0 0)).setCell ⟨w.heap.size + 1, 2, none⟩ (.slice none 0 0)).setCell ⟨w.heap.size + 1 + 1, 0, none⟩ (.int .i64 2) := ⟨_, rfl⟩
    obtain ⟨v1, v2, b1, b2, s1, s2, hbel⟩ : EndN w W5 (F0) 2 := hW5 ▸ HEND.out
    rw [← hW5]
    clear hW5 HEND r0 r1 r2 f0 f1 f2 g0 g1
    obtain ⟨e0, e1, e2⟩ := b1.cells3
    have e3 : W5.cell? ⟨w.heap.size + 1 + 1, 0, none⟩ = some (.int .i64 2) := b2.cell 0
    refine bodyPost_ret (v := .tuple #[.agg #[.bool (F0).neg, v1, v2], .int .i64 2]) (by simp [results, Try.results41, go_sem, e0, e1, e2, e3]) rfl ?_
    exact ⟨_, rfl, IsF.at_ s1 s2, hbel⟩
  · have hd1 : decide (n < 1) = false := decide_eq_false (by omega)
    have hd2 : decide (1000 < n) = true := decide_eq_true (by omega)
    clear hn hn1
    go_enter Try.func41, Try.ntmps41
    go_upto_region 1 with fail
    rw [← hW]
    clear hW
    go_wp2_with fail
    refine (Valid_c _ _ _ H1.out).mono ?_
    intro e w1 hr
    obtain ⟨rfl, hb1⟩ := hr.yes HV.out
    obtain ⟨wz, hwz⟩ : ∃ wz : World, wz = w1 := ⟨_, rfl⟩
    rw [← hwz] at hb1 ⊢
    clear hwz
    replace BR := Lib.hid (BR.out.after hb1)
    replace BE := Lib.hid (BE.out.after hb1)
    replace BX := Lib.hid (BX.out.after hb1)
    replace H1 := Lib.hid (H1.out.after hb1)
    replace HB0 := Lib.hid (HB0.out.trans (hb1.mono HB0.out.size))
    clear hr hb1 c0 c1 c2 hlx
    obtain ⟨r0, r1, r2⟩ := BR.out.cells3
    have f0 := BR.out.frozen 0
    have f1 := BR.out.frozen 1
    have f2 := BR.out.frozen 2
    have g0 : _ = _ := BE.out.cell 0
    have g1 := BE.out.frozen 0
    have hlr := BR.out.lt
    have hle := BE.out.lt
    have HEND := Lib.hid (end_near (x := F0) (e := 2) BR.out BE.out (fun _ h => by cases h) (fun _ h => by cases h) (Sl.nil _) (Sl.nil _) HB0.out)
    go_wp2_with fail
    obtain ⟨W5, hW5⟩ : ∃ W5, W5 = (((wz.setCell ⟨w.heap.size + 1, 0, none⟩ (.bool false)).setCell ⟨w.heap.size + 1, 1, none⟩ (.slice none 0 0)).setCell ⟨w.heap.size + 1, 2, none⟩ (.slice none 0 0)).setCell ⟨w.heap.size + 1 + 1, 0, none⟩ (.int .i64 2) := ⟨_, rfl⟩
    obtain ⟨v1, v2, b1, b2, s1, s2, hbel⟩ : EndN w W5 (F0) 2 := hW5 ▸ HEND.out
    rw [← hW5]
    clear hW5 HEND r0 r1 r2 f0 f1 f2 g0 g1
    obtain ⟨e0, e1, e2⟩ := b1.cells3
    have e3 : W5.cell? ⟨w.heap.size + 1 + 1, 0, none⟩ = some (.int .i64 2) := b2.cell 0
    refine bodyPost_ret (v := .tuple #[.agg #[.bool (F0).neg, v1, v2], .int .i64 2]) (by simp [results, Try.results41, go_sem, e0, e1, e2, e3]) rfl ?_
    exact ⟨_, rfl, IsF.at_ s1 s2, hbel⟩
set_option maxRecDepth 100000 in
set_option maxHeartbeats 16000000 in
theorem near_small (w : World) (v : Value) (s : Bool) (a b N : Nat) (h : IsF w v (fr s a b)) (hok : Ok s a b) (hN1 : 1 ≤ N) (hN2 : N ≤ 1000) (hbN : b ≤ N) : Calls Try.prog 41 #[v, .int .i64 (N : Int)] w (RetF w (fr s a b, 0)) := by
  have HX := h
  obtain ⟨va, vb, rfl, h1, h2⟩ := h
  simp only [fr] at h1 h2
  obtain ⟨p0, k0, rfl, _, _⟩ := h1.shape
  obtain ⟨p1, k1, rfl, _, _⟩ := h2.shape
  obtain ⟨W0, hW⟩ : ∃ W0, W0 = ((w.alloc (.cells #[.bool s, .slice p0 (limbs a).length k0, .slice p1 (limbs b).length k1] 25)).alloc (.cells #[.bool false, .slice none 0 0, .slice none 0 0] 25)).alloc (.cells #[.int .i64 0] 27) := ⟨_, rfl⟩
  have hb0 : Below w.heap.size w W0 := hW ▸ held_alloc (held_alloc (held_alloc (Below.refl _ w)))
  have bx : Box W0 w.heap.size #[.bool s, .slice p0 (limbs a).length k0, .slice p1 (limbs b).length k1] 25 := hW ▸ ((Box.new w _ _).alloc _).alloc _
  have br : Box W0 (w.heap.size + 1) #[.bool false, .slice none 0 0, .slice none 0 0] 25 := by
    rw [hW]
    have := (Box.new (w.alloc (.cells #[.bool s, .slice p0 (limbs a).length k0, .slice p1 (limbs b).length k1] 25)) #[.bool false, .slice none 0 0, .slice none 0 0] 25).alloc (.cells #[.int .i64 0] 27)
    simpa using this
  have be : Box W0 (w.heap.size + 1 + 1) #[.int .i64 0] 27 := by
    rw [hW]
    have := Box.new ((w.alloc (.cells #[.bool s, .slice p0 (limbs a).length k0, .slice p1 (limbs b).length k1] 25)).alloc (.cells #[.bool false, .slice none 0 0, .slice none 0 0] 25)) #[.int .i64 0] 27
    simpa using this
  have HV := Lib.hid (validF_fr.2 hok)
  have H1 : Hid (IsF W0 (.agg #[.bool s, .slice p0 (limbs a).length k0, .slice p1 (limbs b).length k1]) (fr s a b)) := HX.after hb0
  have BX := Lib.hid bx
  have BR := Lib.hid br
  have BE := Lib.hid be
  have HB0 := Lib.hid hb0
  obtain ⟨c0, c1, c2⟩ := bx.cells3
  have hlx := bx.lt
  have la : (limbs a).length ≤ 32 := hok.n32
  have lb : (limbs b).length ≤ 32 := hok.d32
  have hbp : 0 < b := hok.pos
  have hcop : Hid (Nat.gcd a b = 1) := hok.gcd
  clear HX h1 h2 bx br be hb0 hok
  show Calls _ _ #[.agg #[.bool s, .slice p0 (limbs a).length k0, .slice p1 (limbs b).length k1], _] w _
  have hd1 : decide ((N : Int) < 1) = false := decide_eq_false (by omega)
  have hd2 : decide (1000 < (N : Int)) = false := decide_eq_false (by omega)
  have hd3 : decide (N < 1) = false := decide_eq_false (by omega)
  have hd4 : decide (1000 < N) = false := decide_eq_false (by omega)
  have hwu : IntKind.u64.wrap (N : Int) = (N : Int) := by rw [IntKind.wrap_u64]; omega
  go_enter Try.func41, Try.ntmps41
  go_upto_region 1 with fail
  rw [← hW]
  clear hW
  go_wp2_with fail
  refine (Valid_c _ _ _ H1.out).mono ?_
  intro e w1 hr
  obtain ⟨rfl, hb1⟩ := hr.yes HV.out
  obtain ⟨wz, hwz⟩ : ∃ wz : World, wz = w1 := ⟨_, rfl⟩
  rw [← hwz] at hb1 ⊢
  clear hwz
  replace BR := Lib.hid (BR.out.after hb1)
  replace BE := Lib.hid (BE.out.after hb1)
  replace BX := Lib.hid (BX.out.after hb1)
  replace H1 := Lib.hid (H1.out.after hb1)
  replace HB0 := Lib.hid (HB0.out.trans (hb1.mono HB0.out.size))
  clear hr hb1 c0 c1 c2 hlx
  have BEz := BE
  go_upto_region 5 with fail
  go_wp2_with fail
  refine (from_n _ N (by first | rfl | (rw [hwu]) | omega) (by omega) _).mono ?_
  rintro e w2 ⟨v2, rfl, hv2, hb2⟩
  obtain ⟨pm, cm, rfl, _, _⟩ := hv2.shape
  go_upto_region 6 with fail
  obtain ⟨W2, hW2⟩ : ∃ W2, W2 = w2.alloc (.cells #[.slice pm (limbs N).length cm] 23) := ⟨_, rfl⟩
  have hbx : Below w2.heap.size w2 W2 := hW2 ▸ held_alloc (Below.refl _ w2)
  have hbb := hb2.trans (hbx.mono hb2.size)
  have b6 : Box W2 w2.heap.size #[.slice pm (limbs N).length cm] 23 := hW2 ▸ Box.new w2 _ _
  have B6 := Lib.hid b6
  have HM := Lib.hid (hv2.after hbx)
  replace BR := Lib.hid (BR.out.after hbb)
  replace BE := Lib.hid (BE.out.after hbb)
  replace BX := Lib.hid (BX.out.after hbb)
  replace H1 := Lib.hid (H1.out.after hbb)
  replace HB0 := Lib.hid (HB0.out.trans (hbb.mono HB0.out.size))
  have h6s : wz.heap.size ≤ w2.heap.size := hb2.size
  have hle0 : w.heap.size + 1 + 1 < w2.heap.size := by have := BEz.out.lt; omega
  rw [← hW2]
  clear hW2 hbx hbb hv2 hb2 b6 BEz
  obtain ⟨M6, hM6⟩ : ∃ M6, w2.heap.size = M6 := ⟨_, rfl⟩
  rw [hM6] at B6 h6s hle0 ⊢
  clear hM6
  obtain ⟨c0, c1, c2⟩ := BX.out.cells3
  have m0 : W2.cell? ⟨M6, 0, none⟩ = some (.slice pm (limbs N).length cm) := B6.out.cell 0
  have hlx := BX.out.lt
  have hlm := B6.out.lt
  have G2 := Lib.hid H1.out.parts.2.2
  go_wp2_with fail
  refine (compare_c W2 _ _ (limbs b) (limbs N) G2.out HM.out).mono ?_
  rintro e w' ⟨r, rfl, hr, nk, rfl⟩
  obtain ⟨w3, hw3⟩ : ∃ w3, w3 = W2.drewN nk := ⟨_, rfl⟩
  have hb3 : Below W2.heap.size W2 w3 := hw3 ▸ below_drewN W2 nk W2.heap.size
  replace B6 := Lib.hid (B6.out.after hb3)
  replace HM := Lib.hid (HM.out.after hb3)
  replace BR := Lib.hid (BR.out.after hb3)
  replace BE := Lib.hid (BE.out.after hb3)
  replace BX := Lib.hid (BX.out.after hb3)
  replace H1 := Lib.hid (H1.out.after hb3)
  replace HB0 := Lib.hid (HB0.out.trans (hb3.mono HB0.out.size))
  rw [← hw3]
  have hrgt := hr.gt
  clear hw3 hb3 hr c0 c1 c2 m0 hlx hlm G2
  have hr0 : decide (r ≤ 0) = true := decide_eq_true (by
    rcases Int.lt_or_le 0 r with h | h
    · have := hrgt.1 h; omega
    · exact h)
  clear hrgt B6 HM
  have HP2 : Hid (Sl w3 (.slice p1 (limbs b).length k1) (limbs b)) := H1.out.parts.2.2
  have HP1 : Hid (Sl w3 (.slice p0 (limbs a).length k0) (limbs a)) := H1.out.parts.2.1
  have mkS : Hid (∀ w', Below w3.heap.size w3 w' → w'.cell? ⟨w.heap.size, 0, none⟩ = some (.bool s) ∧ w'.cell? ⟨w.heap.size, 1, none⟩ = some (.slice p0 (limbs a).length k0) ∧ w'.cell? ⟨w.heap.size, 2, none⟩ = some (.slice p1 (limbs b).length k1)) := fun w' hw => (BX.out.after hw).cells3
  have D1 : Hid (Sl w3.drew (.slice p0 (limbs a).length k0) (limbs a)) := HP1.out.after (below_dr (Below.refl _ _))
  have hlx := BX.out.lt
  go_upto_region 7 with fail
  go_region_held3 (fun w' => w'.cell? ⟨w.heap.size, 0, none⟩ = some (.bool s) ∧ w'.cell? ⟨w.heap.size, 1, none⟩ = some (.slice p0 (limbs a).length k0) ∧ w'.cell? ⟨w.heap.size, 2, none⟩ = some (.slice p1 (limbs b).length k1))
    (first | (refine mkS.out _ ?_; (repeat (first | with_reducible exact hk5 | with_reducible exact hk4 | with_reducible exact Below.refl _ _ | with_reducible refine below_dr ?_)); done) | (with_reducible exact keep3x (by omega) (mkS.out _ hk5)) | (with_reducible exact keep1x (by omega) (keep3x (by omega) (mkS.out _ hk5))))
    (first
     | (go_at_call 83; ((with_reducible refine (clone_c w3.drew (.slice p0 (limbs a).length k0) (limbs a) D1.out (by omega)).mono ?_); rintro e w4 ⟨v4, rfl, hv4, hb4⟩; have hk4 : Below w3.heap.size w3 w4 := below_of_drew hb4; obtain ⟨q4, j4, rfl, _, _⟩ := hv4.shape))
     | (go_at_call 83; ((with_reducible refine (clone_c w4 (.slice p1 (limbs b).length k1) (limbs b) (HP2.out.after hk4) (by omega)).mono ?_); rintro e w5 ⟨v5, rfl, hv5, hb5⟩; have hk5 : Below w3.heap.size w3 w5 := hk4.trans (hb5.mono hk4.size); obtain ⟨q5, j5, rfl, _, _⟩ := hv5.shape; have BR5 := Lib.hid (BR.out.after hk5); have BE5 := Lib.hid (BE.out.after hk5); obtain ⟨r0, r1, r2⟩ := BR5.out.cells3; have f0 := BR5.out.frozen 0; have f1 := BR5.out.frozen 1; have f2 := BR5.out.frozen 2; have g0 : w5.cell? ⟨w.heap.size + 1 + 1, 0, none⟩ = some (.int .i64 0) := BE5.out.cell 0; have g1 := BE5.out.frozen 0; have hlr := BR5.out.lt; have hle := BE5.out.lt))
     | (fail))
  have HEND := Lib.hid (end_near (x := fr s a b) (e := 0) BR5.out BE5.out (fun _ h => by cases h) (fun _ h => by cases h) (hv4.after hb5) hv5 (HB0.out.trans (hk5.mono HB0.out.size)))
  clear hv4 hv5 hb4 hb5 hk4 hk5 mkS D1
  go_wp2_with fail
  obtain ⟨W5, hW5⟩ : ∃ W5, W5 = (((w5.setCell ⟨w.heap.size + 1, 0, none⟩ (.bool s)).setCell ⟨w.heap.size + 1, 1, none⟩ (.slice q4 (limbs a).length j4)).setCell ⟨w.heap.size + 1, 2, none⟩ (.slice q5 (limbs b).length j5)).setCell ⟨w.heap.size + 1 + 1, 0, none⟩ (.int .i64 0) := ⟨_, rfl⟩
  obtain ⟨v1, v2, b1, b2, s1, s2, hbel⟩ : EndN w W5 (fr s a b) 0 := hW5 ▸ HEND.out
  rw [← hW5]
  clear hW5 HEND r0 r1 r2 f0 f1 f2 g0 g1
  obtain ⟨e0, e1, e2⟩ := b1.cells3
  have e3 : W5.cell? ⟨w.heap.size + 1 + 1, 0, none⟩ = some (.int .i64 0) := b2.cell 0
  refine bodyPost_ret (v := .tuple #[.agg #[.bool (fr s a b).neg, v1, v2], .int .i64 0]) (by simp [results, Try.results41, go_sem, e0, e1, e2, e3]) rfl ?_
  exact ⟨_, rfl, IsF.at_ s1 s2, hbel⟩
end Go.Proofs.Ytaojdlcailpheaa
