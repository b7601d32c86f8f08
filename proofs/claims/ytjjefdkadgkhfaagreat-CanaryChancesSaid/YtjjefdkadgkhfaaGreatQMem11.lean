/- Memory words, more: a row of fractions of its own, whose entries are written one by one. -/
import Derived.Test.YtjjefdkadgkhfaaGreatK22
import Derived.Test.YtjjefdkadgkhfaaGreatK11
set_option linter.unusedVariables false
namespace Go.Proofs.YtjjefdkadgkhfaaGreat
open Go.RowKit

/-- Block b is a row of n fractions: entry i is f i. -/
def RowQ (w : World) (b n : Nat) (f : Nat → F) : Prop := ∃ cs : Array Value, Box w b cs 26 ∧ cs.size = n * 3 ∧
  ∀ i, i < n → ∃ va vb, cs[i * 3]? = some (.bool (f i).neg) ∧ cs[i * 3 + 1]? = some va ∧ cs[i * 3 + 2]? = some vb ∧ Sl w va (f i).num ∧ Sl w vb (f i).den
section
variable {w w' : World} {b n : Nat} {f : Nat → F}
theorem RowQ.lt (h : RowQ w b n f) : b < w.heap.size := by obtain ⟨cs, h1, _⟩ := h; exact h1.lt
theorem RowQ.after (h : RowQ w b n f) (hb : Below w.heap.size w w') : RowQ w' b n f := by
  obtain ⟨cs, h1, h2, h3⟩ := h
  refine ⟨cs, h1.after hb, h2, fun i hi => ?_⟩
  obtain ⟨va, vb, e0, e1, e2, s1, s2⟩ := h3 i hi
  exact ⟨va, vb, e0, e1, e2, s1.after hb, s2.after hb⟩
theorem RowQ.fx {S : Nat → Prop} (h : RowQ w b n f) (hf : Fx S w w') (hd : Dull S w) (hb : ¬ S b) : RowQ w' b n f := by
  obtain ⟨cs, h1, h2, h3⟩ := h
  refine ⟨cs, h1.fx hf hb, h2, fun i hi => ?_⟩
  obtain ⟨va, vb, e0, e1, e2, s1, s2⟩ := h3 i hi
  exact ⟨va, vb, e0, e1, e2, s1.fx hf hd.1, s2.fx hf hd.1⟩
theorem RowQ.cong {g : Nat → F} (h : RowQ w b n f) (hfg : ∀ i, i < n → f i = g i) : RowQ w b n g := by
  obtain ⟨cs, h1, h2, h3⟩ := h
  refine ⟨cs, h1, h2, fun i hi => ?_⟩
  rw [← hfg i hi]
  exact h3 i hi
/-- Entry i, cell by cell. -/
theorem RowQ.entry (h : RowQ w b n f) {i : Nat} (hi : i < n) : ∃ p c q d, w.cell? ⟨b, i * 3, none⟩ = some (.bool (f i).neg) ∧ w.cell? ⟨b, i * 3 + 1, none⟩ = some (.slice p (f i).num.length c) ∧ w.cell? ⟨b, i * 3 + 2, none⟩ = some (.slice q (f i).den.length d) ∧
    w.frozen? ⟨b, i * 3, none⟩ = false ∧ w.frozen? ⟨b, i * 3 + 1, none⟩ = false ∧ w.frozen? ⟨b, i * 3 + 2, none⟩ = false ∧ IsF w (.agg #[.bool (f i).neg, .slice p (f i).num.length c, .slice q (f i).den.length d]) (f i) := by
  obtain ⟨cs, h1, h2, h3⟩ := h
  obtain ⟨va, vb, e0, e1, e2, s1, s2⟩ := h3 i hi
  obtain ⟨p, c, rfl, _, _⟩ := s1.shape
  obtain ⟨q, d, rfl, _, _⟩ := s2.shape
  exact ⟨p, c, q, d, (h1.cell _).trans e0, (h1.cell _).trans e1, (h1.cell _).trans e2, h1.frozen _, h1.frozen _, h1.frozen _, ⟨_, _, rfl, s1, s2⟩⟩
theorem RowQ.noTag (h : RowQ w b n f) : ∀ g, some b = some g → ¬ Tag32 w g := by
  obtain ⟨cs, h1, _⟩ := h
  exact h1.noTag (by decide)
/-- The row bears neither limbs nor ints. -/
theorem RowQ.dull (h : RowQ w b n f) : (∀ g, g = b → ¬ Tag32 w g) ∧ ∀ g o z, g = b → w.cell? ⟨g, o, none⟩ ≠ some (.int .i64 z) := by
  refine ⟨fun g hg => h.noTag g (by rw [hg]), ?_⟩
  obtain ⟨cs, h1, h2, h3⟩ := h
  rintro g o z rfl hc
  rw [h1.cell] at hc
  have ho : o < cs.size := by
    rcases Nat.lt_or_ge o cs.size with h | h
    · exact h
    · rw [Array.getElem?_eq_none h] at hc; cases hc
  obtain ⟨va, vb, e0, e1, e2, s1, s2⟩ := h3 (o / 3) (by omega)
  obtain ⟨p, c, rfl, _, _⟩ := s1.shape
  obtain ⟨q, d, rfl, _, _⟩ := s2.shape
  have hm : o % 3 = 0 ∨ o % 3 = 1 ∨ o % 3 = 2 := by omega
  rcases hm with hm | hm | hm
  · rw [show o = o / 3 * 3 by omega, e0] at hc; cases hc
  · rw [show o = o / 3 * 3 + 1 by omega, e1] at hc; cases hc
  · rw [show o = o / 3 * 3 + 2 by omega, e2] at hc; cases hc
/-- An entry is written. -/
theorem RowQ.set (h : RowQ w b n f) {i : Nat} (hi : i < n) {x : F} {va vb : Value} (h1 : Sl w va x.num) (h2 : Sl w vb x.den) :
    RowQ (((w.setCell ⟨b, i * 3, none⟩ (.bool x.neg)).setCell ⟨b, i * 3 + 1, none⟩ va).setCell ⟨b, i * 3 + 2, none⟩ vb) b n (fun j => if j = i then x else f j) := by
  have hg : w.grownBy (((w.setCell ⟨b, i * 3, none⟩ (.bool x.neg)).setCell ⟨b, i * 3 + 1, none⟩ va).setCell ⟨b, i * 3 + 2, none⟩ vb) (some b) := grown_tr (grown_tr (grown_set w b _ _) (grown_set _ b _ _)) (grown_set _ b _ _)
  have ht := h.noTag
  obtain ⟨cs, c1, c2, c3⟩ := h
  refine ⟨_, ((c1.set (i * 3) (.bool x.neg)).set (i * 3 + 1) va).set (i * 3 + 2) vb, by simp [c2], fun j hj => ?_⟩
  by_cases he : j = i
  · subst he
    simp only [if_true]
    refine ⟨va, vb, ?_, ?_, ?_, h1.grown hg ht, h2.grown hg ht⟩
    · simp [Array.getElem?_setIfInBounds, c2]; omega
    · simp [Array.getElem?_setIfInBounds, c2]; omega
    · simp [Array.getElem?_setIfInBounds, c2]; omega
  · simp only [he, if_false]
    obtain ⟨ua, ub, e0, e1, e2, s1, s2⟩ := c3 j hj
    refine ⟨ua, ub, ?_, ?_, ?_, s1.grown hg ht, s2.grown hg ht⟩
    · rw [Array.getElem?_setIfInBounds_ne (by omega), Array.getElem?_setIfInBounds_ne (by omega), Array.getElem?_setIfInBounds_ne (by omega)]; exact e0
    · rw [Array.getElem?_setIfInBounds_ne (by omega), Array.getElem?_setIfInBounds_ne (by omega), Array.getElem?_setIfInBounds_ne (by omega)]; exact e1
    · rw [Array.getElem?_setIfInBounds_ne (by omega), Array.getElem?_setIfInBounds_ne (by omega), Array.getElem?_setIfInBounds_ne (by omega)]; exact e2
theorem grown_row (w : World) (b i : Nat) (u0 u1 u2 : Value) : w.grownBy (((w.setCell ⟨b, i * 3, none⟩ u0).setCell ⟨b, i * 3 + 1, none⟩ u1).setCell ⟨b, i * 3 + 2, none⟩ u2) (some b) :=
  grown_tr (grown_tr (grown_set w b _ _) (grown_set _ b _ _)) (grown_set _ b _ _)
end
def zeros3 (n : Nat) : Array Value := madeCells #[.bool false, .slice none 0 0, .slice none 0 0] (n * 3)
theorem zeros3_get {n i : Nat} (hi : i < n) (k : Nat) (hk : k < 3) : (zeros3 n)[i * 3 + k]? = some (#[Value.bool false, .slice none 0 0, .slice none 0 0][k]!) := by
  unfold zeros3 madeCells
  have h1 : i * 3 + k < n * 3 := by omega
  have h2 : (i * 3 + k) % 3 = k := by omega
  simp [h1, h2]
theorem RowQ.made (w : World) (n : Nat) : RowQ (w.alloc (.cells (zeros3 n) 26)) w.heap.size n (fun _ => F0) := by
  refine ⟨_, Box.new w _ _, by unfold zeros3; rw [size_madeCells], fun i hi => ?_⟩
  refine ⟨.slice none 0 0, .slice none 0 0, ?_, ?_, ?_, Sl.nil _, Sl.nil _⟩
  · exact zeros3_get hi 0 (by omega)
  · exact zeros3_get hi 1 (by omega)
  · exact zeros3_get hi 2 (by omega)
theorem run_makeF (n : Nat) (hn : n ≤ 1000000) (w : World) : (Instr.makeSlice 78 (.int .i64 (n : Int)) (.int .i64 (n : Int))).run Tryz.prog w = .ok (.slice (some ⟨w.heap.size, 0, none⟩) n n) (w.alloc (.cells (zeros3 n) 26)) := by
  obtain ⟨i0, hi, hz0, hz1, hz2⟩ := info_parts infoF
  have hr := run_make (P := Tryz.prog) w 78 26 i0 _ Tryz.underlying78 hi hz0 .i64 .i64 n n (by omega) (Int.le_refl _) (by rw [hz2]; omega) (by omega)
  simp only [Int.toNat_natCast, hz1] at hr
  exact hr
/-- A row of one fraction, laid at once. -/
theorem RowQ.one {w : World} {x : F} {va vb : Value} (h1 : Sl w va x.num) (h2 : Sl w vb x.den) : RowQ (w.alloc (.cells #[.bool x.neg, va, vb] 26)) w.heap.size 1 (fun _ => x) := by
  refine ⟨_, Box.new w _ _, rfl, fun i hi => ?_⟩
  obtain rfl : i = 0 := by omega
  exact ⟨va, vb, rfl, rfl, rfl, h1.alloc _, h2.alloc _⟩
end Go.Proofs.YtjjefdkadgkhfaaGreat
