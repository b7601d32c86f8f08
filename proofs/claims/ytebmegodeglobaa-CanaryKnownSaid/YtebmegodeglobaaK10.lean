/- Memory words, more: variables that hold slices; stores into them leave fractions.
   A range over a function, in general: after r rounds memory is as a relation J r says; the body may write memory. One law for the caller.
   Memory words, more: slices of ints and of bools; a rollout as a value.
   Walks of package tails: trials, Choose, fraction, rate, checked.
   Walks of package tails: rate, checked. -/
import Derived.Test.YtebmegodeglobaaK09
import Derived.RangeFuncNested
import Derived.RangeFuncBound
import Derived.RangeFuncCalls
import Derived.RangeFuncLeaves
import Derived.Shelf.Abstract
import Derived.Test.YtebmegodeglobaaK02
set_option linter.unusedVariables false
namespace Go.Proofs.Ytebmegodeglobaa
open Go.RowKit

theorem below_dr {B : Nat} {w w' : World} (h : Below B w w') : Below B w w'.drew := ⟨h.os, h.tape, h.output, h.size, h.block⟩
theorem Sl.drew {w : World} {v : Value} {l : List Nat} (h : Sl w v l) : Sl w.drew v l := h.after (below_dr (Below.refl _ w))
theorem SlF.drew {w : World} {v : Value} {xs : List F} (h : SlF w v xs) : SlF w.drew v xs := h.after (below_dr (Below.refl _ w))
theorem held_alloc {W w : World} {o : Obj} (h : Below W.heap.size W w) : Below W.heap.size W (w.alloc o) := h.alloc h.size o
theorem held_set {W w : World} {p : Addr} {v : Value} (h : Below W.heap.size W w) (hp : W.heap.size ≤ p.block) : Below W.heap.size W (w.setCell p v) := h.setCell hp v
theorem Tag32.set {w : World} {b : Nat} (h : Tag32 w b) (g i : Nat) (v : Value) : Tag32 (w.setCell ⟨g, i, none⟩ v) b := by
  obtain ⟨cs, fz, h⟩ := h
  by_cases hb : b = g
  · subst hb
    exact ⟨cs.setIfInBounds i v, fz, by simp [World.setCell, Array.getElem?_modify, h]⟩
  · exact ⟨cs, fz, (Below.heap_setCell w ⟨g, i, none⟩ v b hb).trans h⟩
/-- A store into a cell that holds no limb leaves what a slice of limbs reads. -/
theorem Sl.setN {w : World} {v : Value} {l : List Nat} {b i : Nat} {u0 : Value} (h : Sl w v l) (hc : w.cell? ⟨b, i, none⟩ = some u0) (hn : ∀ x, u0 ≠ .int .u32 x) (u : Value) : Sl (w.setCell ⟨b, i, none⟩ u) v l := by
  obtain ⟨h0, a, cap, h1, h2, h3, h5, h6⟩ := h
  refine ⟨h0, a, cap, h1, h2, h3, ⟨h5.1, fun hl b' off ha => (h5.2 hl b' off ha).set _ _ _⟩, fun hl => ?_⟩
  obtain ⟨b', off, ha, hlt, hcs⟩ := h6 hl
  refine ⟨b', off, ha, by simpa [World.setCell] using hlt, fun j hj => ?_⟩
  rw [← hcs j hj]
  refine World.cell?_setCell_other w ⟨b, i, none⟩ ⟨b', off + j, none⟩ u (fun e => ?_)
  have e1 := hcs j hj
  rw [← e, hc] at e1
  injection e1 with e1
  exact hn _ e1
theorem IsF.setN {w : World} {v : Value} {x : F} {b i : Nat} {u0 : Value} (h : IsF w v x) (hc : w.cell? ⟨b, i, none⟩ = some u0) (hn : ∀ x, u0 ≠ .int .u32 x) (u : Value) : IsF (w.setCell ⟨b, i, none⟩ u) v x := by
  obtain ⟨va, vb, e, h1, h2⟩ := h
  exact ⟨va, vb, e, h1.setN hc hn u, h2.setN hc hn u⟩
/-- A store into a variable of slices leaves a row of fractions. -/
theorem SlF.setS {w : World} {v : Value} {xs : List F} {b : Nat} {p : Option Addr} {n c : Nat} (h : SlF w v xs) (hc : w.cell? ⟨b, 0, none⟩ = some (.slice p n c)) (u : Value) : SlF (w.setCell ⟨b, 0, none⟩ u) v xs := by
  obtain ⟨g, cap, h1, h2, h3, h4⟩ := h
  refine ⟨g, cap, h1, h2, h3, fun i x hx => ?_⟩
  have hne : g ≠ b := by
    rintro rfl
    have hl : 0 < xs.length := by
      rcases Nat.lt_or_ge i xs.length with hi | hi
      · omega
      · rw [List.getElem?_eq_none hi] at hx; cases hx
    obtain ⟨va, vb, e0, _⟩ := h4 0 xs[0] (List.getElem?_eq_getElem hl)
    rw [Nat.zero_mul, hc] at e0
    injection e0 with e0
    cases e0
  obtain ⟨va, vb, e0, e1, e2, e3, e4⟩ := h4 i x hx
  have k : ∀ j, (w.setCell ⟨b, 0, none⟩ u).cell? ⟨g, j, none⟩ = w.cell? ⟨g, j, none⟩ := fun j => World.cell?_setCell_other w ⟨b, 0, none⟩ ⟨g, j, none⟩ u (fun e => hne (by injection e with e1; exact e1.symm))
  exact ⟨va, vb, (k _).trans e0, (k _).trans e1, (k _).trans e2, e3.setN hc (fun _ h => by cases h) u, e4.setN hc (fun _ h => by cases h) u⟩
theorem SlF.alloc {w : World} {v : Value} {xs : List F} (h : SlF w v xs) (o : Obj) : SlF (w.alloc o) v xs := h.after ((Below.refl _ w).alloc (Nat.le_refl _) o)
theorem powers_h (w W2 : World) (v : Value) (a n : Nat) (hS : Below W2.heap.size W2 w) (h : IsF W2 v (Wh a)) (hn : n ≤ 64) (ha : (limbs a).length ≤ 32) (hp : ∀ i, i ≤ n → (limbs (a ^ i)).length ≤ 32) :
    Calls Try.prog 50 #[v, .int .i64 (n : Int)] w fun e w' => ∃ u, e = .returned u ∧ SlF w' u (pows a n) ∧ Below W2.heap.size W2 w' ∧ Below w.heap.size w w' := by
  refine (powers_t w v a n (h.after hS) hn ha hp).mono ?_
  rintro e w' ⟨u, rfl, h1, h2⟩
  exact ⟨u, rfl, h1, hS.trans (h2.mono hS.size), h2⟩

/-- A variable that holds a fraction. -/
def VarF (w : World) (b : Nat) (x : F) : Prop := ∃ va vb, Box w b #[.bool x.neg, va, vb] 26 ∧ Sl w va x.num ∧ Sl w vb x.den
theorem VarF.after {w w' : World} {b : Nat} {x : F} (h : VarF w b x) (hb : Below w.heap.size w w') : VarF w' b x := by
  obtain ⟨va, vb, h1, h2, h3⟩ := h
  exact ⟨va, vb, h1.after hb, h2.after hb, h3.after hb⟩
theorem VarF.lt {w : World} {b : Nat} {x : F} (h : VarF w b x) : b < w.heap.size := by obtain ⟨_, _, h1, _⟩ := h; exact h1.lt
theorem VarF.drew {w : World} {b : Nat} {x : F} (h : VarF w b x) : VarF w.drew b x := h.after (below_dr (Below.refl _ w))
/-- A variable whose denominator is a literal 1. -/
theorem VarF.lit {w : World} {N s : Nat} {a : Nat} {va : Value} {r : Bool} (hA : Sl w va (limbs a)) (hr : r = false) (hb : w.heap[N]? = some (.cells #[.bool r, va, .slice (some ⟨s, 0, none⟩) 1 1] 26 (0, 0))) (hs : w.heap[s]? = some (.cells #[.int .u32 1] 95 (0, 0))) : VarF w N (Wh a) := by
  subst hr
  refine ⟨va, _, hb, hA, ?_⟩
  show Sl _ _ (limbs 1)
  rw [limbs_one]
  exact Sl.of_row (l := [1]) hs (Lb.cons (by omega) Lb.nil) (by simp) (by omega)
end Go.Proofs.Ytebmegodeglobaa

namespace Go.Proofs.Ytebmegodeglobaa
open Go.RowKit

/-- Block l holds no data: the state of a loop, or calls that are put off. -/
def Soft (W : World) (l : Nat) : Prop := (∃ L, W.heap[l]? = some (.loop L)) ∨ ∃ d, W.heap[l]? = some (.deferred d)
theorem Soft.lt {W : World} {l : Nat} (h : Soft W l) : l < W.heap.size := by
  rcases h with ⟨L, h⟩ | ⟨d, h⟩ <;> exact (Array.getElem?_eq_some_iff.1 h).1
theorem Soft.ne_box {W : World} {l b : Nat} {cs : Array Value} {t : TypeId} {fz : Nat × Nat} (h : Soft W l) (hb : W.heap[b]? = some (.cells cs t fz)) : b ≠ l := by
  rintro rfl
  rcases h with ⟨L, h⟩ | ⟨d, h⟩ <;> rw [hb] at h <;> cases h
theorem Soft.noTag {W : World} {l : Nat} (h : Soft W l) : ∀ g, some l = some g → ¬ Tag32 W g := by
  rintro g e ⟨cs, fz, h'⟩
  injection e with e
  exact h.ne_box h' e.symm
theorem Soft.cell_ne {W : World} {l b o : Nat} {v : Value} (h : Soft W l) (hc : W.cell? ⟨b, o, none⟩ = some v) : b ≠ l := by
  rintro rfl
  rcases h with ⟨L, h⟩ | ⟨d, h⟩ <;> simp [World.cell?, h] at hc
theorem Box.soft {W W' : World} {l b : Nat} {cs : Array Value} {t : TypeId} (h : Box W b cs t) (hs : Soft W l) (hg : W.grownBy W' (some l)) : Box W' b cs t :=
  (hg.block b h.lt (by intro e; injection e with e; exact hs.ne_box h e)).trans h
theorem cell_soft {W W' : World} {l b o : Nat} {v : Value} (h : W.cell? ⟨b, o, none⟩ = some v) (hs : Soft W l) (hg : W.grownBy W' (some l)) : W'.cell? ⟨b, o, none⟩ = some v :=
  hg.cell h (by intro e; injection e with e; exact hs.cell_ne h e)
theorem putObj_grown2 (W : World) (l : Nat) (o : Obj) : W.grownBy (W.putObj l o) (some l) := grownBy_putObj' W l o
/-- Blocks from B on that hold no data are as they were. -/
def KeepSoft (B : Nat) (w W : World) : Prop := w.heap.size ≤ W.heap.size ∧ ∀ b, B ≤ b → Soft w b → W.heap[b]? = w.heap[b]?
theorem KeepSoft.refl (B : Nat) (w : World) : KeepSoft B w w := ⟨Nat.le_refl _, fun _ _ _ => rfl⟩
theorem KeepSoft.of_below {B : Nat} {w W : World} (h : Below w.heap.size w W) : KeepSoft B w W := ⟨h.size, fun b _ hs => h.block b hs.lt⟩
theorem KeepSoft.soft {B : Nat} {w W : World} (h : KeepSoft B w W) {b : Nat} (hb : B ≤ b) (hs : Soft w b) : Soft W b := by
  have := h.2 b hb hs
  rcases hs with ⟨L, h⟩ | ⟨d, h⟩
  · exact .inl ⟨L, this.trans h⟩
  · exact .inr ⟨d, this.trans h⟩
theorem KeepSoft.trans {B : Nat} {w W V : World} (h : KeepSoft B w W) (k : KeepSoft B W V) : KeepSoft B w V :=
  ⟨Nat.le_trans h.1 k.1, fun b hb hs => (k.2 b hb (h.soft hb hs)).trans (h.2 b hb hs)⟩
theorem KeepSoft.grown {B : Nat} {w W V : World} {row : Option Nat} (h : KeepSoft B w W) (hg : W.grownBy V row) (hr : ∀ g, row = some g → ¬ Soft W g) : KeepSoft B w V := by
  refine h.trans ⟨hg.size, fun b hb hs => hg.block b hs.lt ?_⟩
  intro e
  exact hr b e.symm hs
theorem KeepSoft.setCell {B : Nat} {w W : World} (h : KeepSoft B w W) {b i : Nat} {u : Value} {v : Value} (hc : W.cell? ⟨b, i, none⟩ = some v) : KeepSoft B w (W.setCell ⟨b, i, none⟩ u) := by
  refine h.trans ⟨by simp [World.setCell], fun b' _ hs => Below.heap_setCell W ⟨b, i, none⟩ u b' ?_⟩
  rintro rfl
  exact hs.cell_ne hc rfl
theorem KeepSoft.below {B : Nat} {w W V : World} (h : KeepSoft B w W) (hb : Below W.heap.size W V) : KeepSoft B w V := h.trans (.of_below hb)
/-- How the body of a round may be left. -/
def roundPost (B : Nat) (J X : World → Prop) (w2 : World) : Exit → Act → World → Prop
  | .normal, _, W3 => J W3 ∧ KeepSoft B w2 W3
  | .ret, _, W3 => X W3 ∧ KeepSoft B w2 W3
  | _, _, _ => False

theorem wpIn_range_inv {P : Program} {F : Fence} {n : Nat} {g : Operand} {ps : Array Tmp} {assign body : Code} {Q : Exit → Act → World → Prop} {a : Act} {w : World}
    (hro : F.round = none) (h1 : 1 ≤ n) {gf : Nat} {lb : Array Value} (hg : a.eval g = .func (.func gf) #[] lb) (hFg : F.fn gf) (eg : ∀ args w, (callFunc gf args).run P w = .ok (.enter gf args) w)
    (N : Nat) (J : Nat → World → Prop) (V : Nat → Array Value → World → Prop) (X : Nat → World → Prop) (hV : ∀ r args W, V r args W → args.size = ps.size)
    (hJB : ∀ r W, J r W → w.heap.size ≤ W.heap.size)
    (hJb : ∀ r W W', J r W → Below W.heap.size W W' → J r W')
    (hJl : ∀ r W W' l, w.heap.size ≤ l → J r W → Soft W l → W.grownBy W' (some l) → J r W')
    (hJ0 : J 0 w)
    (hiter : ∀ (l : Nat) (W1 : World) (J' Y : Nat → World → Prop), (∀ r W, J' r W → J r W) → (∀ r W W', J' r W → Below W.heap.size W W' → J' r W') → J' 0 W1 →
      (∀ (r : Nat) (args : Array Value) (W : World), r < N → J' r W → V r args W →
        YieldAt F (n - 1 - 1) P l args W fun e W' => (e = .returned (.bool true) ∧ J' (r + 1) W') ∨ (e = .returned (.bool false) ∧ Y r W')) →
      CallsIn F (n - 1) P gf (#[.func (.yield l) #[] #[]] ++ lb) W1 fun e W' => (∃ v, e = .returned v) ∧ (J' N W' ∨ ∃ r, r < N ∧ Y r W'))
    (A : Nat → Array Value → Act → World → World → Prop) (hA : ∀ r args a1 W w1, A r args a1 W w1 → Below W.heap.size W w1)
    (hassign : ∀ (l r : Nat) (args : Array Value) (W : World) (K : Act → World → Prop), r < N → J r W → V r args W → (∀ a1 w1, A r args a1 W w1 → K a1 w1) →
      assign.wpIn (F.inRound l) (n - 1 - 1) P (Exit.then K (fun _ _ _ => False)) { tmps := (ps.zip args).foldl (fun t (p, v) => t.setIfInBounds p v) a.tmps, defers := [] } W)
    (hbody : ∀ (l r : Nat) (args : Array Value) (W w1 w2 : World) (a1 : Act), r < N → J r W → V r args W → A r args a1 W w1 → J r w2 → Soft w1 l → l < W.heap.size → w1.grownBy w2 (some l) →
      body.wpIn (F.inRound l) (n - 1 - 1) P (roundPost w.heap.size (J (r + 1)) (X r) w2) a1 w2)
    (hdone : ∀ W, J N W → W.heap[w.heap.size]? = some (.deferred (some [])) → Q .normal { a with defers := { target := .collected w.heap.size, args := #[] } :: a.defers } W)
    (hstop : ∀ (l r : Nat) (W3 W : World), r < N → X r W3 → w.heap.size < l → Soft W3 l → W3.grownBy W (some l) → W.heap[w.heap.size]? = some (.deferred (some [])) →
      Code.ret.wpIn F n P Q { a with defers := { target := .collected w.heap.size, args := #[] } :: a.defers } W) :
    (Code.rangeFunc g ps assign body).wpIn F n P Q a w := by
  refine wpIn_rangeFunc ?_
  intro fn hfn
  rw [hro]
  obtain ⟨rec, hrec⟩ : ∃ rec : LoopState → Option Code → Loop, rec = fun st pe => { state := st, pending := pe, fn, tmps := a.tmps, params := ps, assign, body, defers := w.heap.size } := ⟨_, rfl⟩
  obtain ⟨W1, hW1⟩ : ∃ W1, W1 = (w.alloc (.deferred (some []))).alloc (.loop (rec .ready none)) := ⟨_, rfl⟩
  have hw1 : Below w.heap.size w W1 := hW1 ▸ ((Below.refl _ w).alloc (Nat.le_refl _) _).alloc (by simp) _
  have hl1 : W1.heap[w.heap.size + 1]? = some (.loop (rec .ready none)) := by
    rw [hW1]; have := heap_alloc_new (w.alloc (.deferred (some []))) (.loop (rec .ready none)); rwa [World.size_alloc] at this
  have hd1 : W1.heap[w.heap.size]? = some (.deferred (some [])) := by
    rw [hW1]; exact (Below.heap_alloc _ _ _ (by simp)).trans (heap_alloc_new w _)
  have hs1 : W1.heap.size = w.heap.size + 2 := by rw [hW1]; simp
  refine ⟨w.heap.size + 1, [{ target := .collected w.heap.size, args := #[] }], W1, { target := .fn (.func gf) lb, args := #[.func (.yield (w.heap.size + 1)) #[] #[]] }, W1, gf, #[.func (.yield (w.heap.size + 1)) #[] #[]] ++ lb, W1, ?_, ?_, ?_, ?_, fun _ => h1, ?_⟩
  · rw [hW1, hrec]; exact run_enterLoop_outer _ _ _ _ _
  · simp only [resolve, hg]
    simp [go_sem]
  · intro f' hf'; simp [Target.leads] at hf'; subst hf'; exact hFg
  · simp [invoke, go_sem, eg]
  · refine (hiter (w.heap.size + 1) W1 (fun r W => J r W ∧ W.heap[w.heap.size + 1]? = some (.loop (rec .ready none)) ∧ W.heap[w.heap.size]? = some (.deferred (some [])))
      (fun r W' => ∃ W3, X r W3 ∧ W3.heap[w.heap.size + 1]? = some (.loop (rec .busy none)) ∧ W3.heap[w.heap.size]? = some (.deferred (some [])) ∧ W' = W3.putObj (w.heap.size + 1) (.loop (rec .done (some .ret)))) (fun r W h => h.1) ?_ ⟨hJb _ _ _ hJ0 hw1, hl1, hd1⟩ ?_).mono ?_
    · rintro r W W' ⟨h, hl, hd⟩ hb
      exact ⟨hJb _ _ _ h hb, (hb.block _ (Array.getElem?_eq_some_iff.1 hl).1).trans hl, (hb.block _ (Array.getElem?_eq_some_iff.1 hd).1).trans hd⟩
    · -- a round
      rintro r args W hr ⟨hj, hl, hd⟩ hv
      have hsz := hJB _ _ hj
      have hlt := (Array.getElem?_eq_some_iff.1 hl).1
      have hy := run_yield (P := P) (args := args) hl (by rw [hrec]; exact hV _ _ _ hv)
      rw [hrec] at hy
      refine ⟨fn, _, assign, body, hy, roundIn_of_wpIn hfn (hassign _ r args W _ hr hj hv ?_)⟩
      intro a1 w1 ha
      have hbw1 := hA _ _ _ _ _ ha
      have hlw1 : w1.heap[w.heap.size + 1]? = some (.loop (rec .ready none)) := (hbw1.block _ (by omega)).trans hl
      have hdw1 : w1.heap[w.heap.size]? = some (.deferred (some [])) := (hbw1.block _ (by omega)).trans hd
      have hsw1 := hbw1.size
      have hbr := run_beginRound (P := P) hlw1 (by rw [hrec])
      refine ⟨_, hbr, ?_⟩
      have hrb : ({ rec .ready none with state := .busy } : Loop) = rec .busy none := by rw [hrec]
      rw [hrb]
      have hl2 : (w1.putObj (w.heap.size + 1) (.loop (rec .busy none))).heap[w.heap.size + 1]? = some (.loop (rec .busy none)) := World.putObj_heap_same (by omega)
      have hd2 : (w1.putObj (w.heap.size + 1) (.loop (rec .busy none))).heap[w.heap.size]? = some (.deferred (some [])) := (World.putObj_heap_other (by omega)).trans hdw1
      have hj2 : J r (w1.putObj (w.heap.size + 1) (.loop (rec .busy none))) := hJl _ _ _ _ (by omega) (hJb _ _ _ hj hbw1) (.inl ⟨_, hlw1⟩) (putObj_grown2 _ _ _)
      refine wpIn_mono (hbody _ r args W w1 _ a1 hr hj hv ha hj2 (.inl ⟨_, hlw1⟩) (by omega) (putObj_grown2 _ _ _)) ?_
      rintro e a3 W3 hp
      cases e with
      | normal =>
        obtain ⟨hc, hk3⟩ := hp
        have hl3 : W3.heap[w.heap.size + 1]? = some (.loop (rec .busy none)) := (hk3.2 _ (by omega) (.inl ⟨_, hl2⟩)).trans hl2
        have hd3 : W3.heap[w.heap.size]? = some (.deferred (some [])) := (hk3.2 _ (by omega) (.inr ⟨_, hd2⟩)).trans hd2
        have her := run_endRound (P := P) none hl3
        refine ⟨_, _, her, .inl ⟨rfl, ?_, ?_, ?_⟩⟩
        · exact hJl _ _ _ _ (by omega) hc (.inl ⟨_, hl3⟩) (putObj_grown2 _ _ _)
        · have hre : ({ rec .busy none with state := if (none : Option Code).isNone then .ready else .done, pending := none } : Loop) = rec .ready none := by rw [hrec]; rfl
          rw [hre]
          exact World.putObj_heap_same (Array.getElem?_eq_some_iff.1 hl3).1
        · exact (World.putObj_heap_other (by omega)).trans hd3
      | ret =>
        obtain ⟨hx, hk3⟩ := hp
        have hl3 : W3.heap[w.heap.size + 1]? = some (.loop (rec .busy none)) := (hk3.2 _ (by omega) (.inl ⟨_, hl2⟩)).trans hl2
        have hd3 : W3.heap[w.heap.size]? = some (.deferred (some [])) := (hk3.2 _ (by omega) (.inr ⟨_, hd2⟩)).trans hd2
        have her := run_endRound (P := P) (some .ret) hl3
        refine ⟨_, _, her, .inr ⟨rfl, W3, hx, hl3, hd3, ?_⟩⟩
        rw [hrec]; rfl
      | exit id => exact hp.elim
      | goto t => exact hp.elim
      | panic ch => exact hp.elim
      | outgrown => exact hp.elim
    · -- behind the iterator
      rintro e W2 ⟨⟨v, rfl⟩, (⟨hj, hl, hd⟩ | ⟨r, hr, W3, hx, hl3, hd3, rfl⟩)⟩
      · have hel := run_endLoop (P := P) hl (by rw [hrec]; simp)
        have hpe : (rec .ready none).pending = none := by rw [hrec]
        rw [hpe] at hel
        exact ⟨none, _, hel, hdone _ (hJl _ _ _ _ (by omega) hj (.inl ⟨_, hl⟩) (putObj_grown2 _ _ _)) ((World.putObj_heap_other (by omega)).trans hd)⟩
      · have hsl := (Array.getElem?_eq_some_iff.1 hl3).1
        have hl4 : (W3.putObj (w.heap.size + 1) (.loop (rec .done (some .ret)))).heap[w.heap.size + 1]? = some (.loop (rec .done (some .ret))) := World.putObj_heap_same hsl
        have hel := run_endLoop (P := P) hl4 (by rw [hrec]; simp)
        have hpe : (rec .done (some .ret)).pending = some .ret := by rw [hrec]
        rw [hpe] at hel
        refine ⟨some .ret, _, hel, hstop (w.heap.size + 1) r W3 _ hr hx (by omega) (.inl ⟨_, hl3⟩) ?_ ?_⟩
        · refine ⟨rfl, rfl, rfl, by simp, fun j hj hne => ?_⟩
          rw [World.putObj_heap_other (fun e => hne (by rw [e])), World.putObj_heap_other (fun e => hne (by rw [e]))]
        · rw [World.putObj_heap_other (by omega), World.putObj_heap_other (by omega)]
          exact hd3
end Go.Proofs.Ytebmegodeglobaa

namespace Go.Proofs.Ytebmegodeglobaa
open Go.RowKit

/-- Entry i of a list of ints. -/
def ati (l : List Int) (i : Nat) : Int := l.getD i 0
/-- Entry i of a list of bools. -/
def atb (l : List Bool) (i : Nat) : Bool := l.getD i false
theorem ati_get {l : List Int} {i : Nat} (h : i < l.length) : ati l i = l[i] := by simp [ati, List.getD, h]
theorem atb_get {l : List Bool} {i : Nat} (h : i < l.length) : atb l i = l[i] := by simp [atb, List.getD, h]
theorem ati_mem {l : List Int} {i : Nat} (h : i < l.length) : ati l i ∈ l := by rw [ati_get h]; exact List.getElem_mem h
def In64 (z : Int) : Prop := -9223372036854775808 ≤ z ∧ z ≤ 9223372036854775807
/-- The slice value v reads as the one-cell values cs. -/
def SlV (w : World) (v : Value) (cs : List Value) : Prop :=
  ∃ (a : Option Addr) (cap : Nat), v = .slice a cs.length cap ∧ cs.length ≤ cap ∧ cap ≤ 9223372036854775807 ∧ (a = none → cap = 0) ∧
    (0 < cs.length → ∃ b off, a = some ⟨b, off, none⟩ ∧ b < w.heap.size ∧ ∀ i c, cs[i]? = some c → w.cell? ⟨b, off + i, none⟩ = some c)
theorem SlV.below {B : Nat} {w w' : World} {v : Value} {cs : List Value} (h : SlV w v cs) (hb : Below B w w') (hB : w.heap.size ≤ B) : SlV w' v cs := by
  obtain ⟨a, cap, h1, h2, h3, h4, h5⟩ := h
  refine ⟨a, cap, h1, h2, h3, h4, fun hl => ?_⟩
  obtain ⟨b, off, e, hlt, hc⟩ := h5 hl
  exact ⟨b, off, e, Nat.lt_of_lt_of_le hlt hb.size, fun i c hi => (hb.cell (p := ⟨b, off + i, none⟩) (Nat.lt_of_lt_of_le hlt hB)).trans (hc i c hi)⟩
theorem SlV.after {w w' : World} {v : Value} {cs : List Value} (h : SlV w v cs) (hb : Below w.heap.size w w') : SlV w' v cs := h.below hb (Nat.le_refl _)
theorem SlV.alloc {w : World} {v : Value} {cs : List Value} (h : SlV w v cs) (o : Obj) : SlV (w.alloc o) v cs := h.after ((Below.refl _ w).alloc (Nat.le_refl _) o)
theorem SlV.nil (w : World) : SlV w (.slice none 0 0) [] := ⟨none, 0, rfl, by simp, by omega, fun _ => rfl, fun h => by simp at h⟩
theorem SlV.soft {w w' : World} {l : Nat} {v : Value} {cs : List Value} (h : SlV w v cs) (hs : Soft w l) (hg : w.grownBy w' (some l)) : SlV w' v cs := by
  obtain ⟨a, cap, h1, h2, h3, h4, h5⟩ := h
  refine ⟨a, cap, h1, h2, h3, h4, fun hl => ?_⟩
  obtain ⟨b, off, e, hlt, hc⟩ := h5 hl
  exact ⟨b, off, e, Nat.lt_of_lt_of_le hlt hg.size, fun i c hi => cell_soft (hc i c hi) hs hg⟩
/-- A part of what a slice reads. -/
theorem SlV.part {w : World} {b off len cap : Nat} {cs : List Value} (h : SlV w (.slice (some ⟨b, off, none⟩) len cap) cs) (n m : Nat) (hnm : n ≤ m) (hm : m ≤ len) : SlV w (.slice (some ⟨b, off + n, none⟩) (m - n) (cap - n)) ((cs.take m).drop n) := by
  obtain ⟨a, cap', h1, h2, h3, _, h5⟩ := h
  obtain ⟨rfl, rfl, rfl⟩ : some ⟨b, off, none⟩ = a ∧ len = cs.length ∧ cap = cap' := by simpa using h1
  have hl : ((cs.take m).drop n).length = m - n := by simp; omega
  refine ⟨_, _, by rw [hl], by rw [hl]; omega, by omega, (fun h => by cases h), fun hp => ?_⟩
  rw [hl] at hp
  obtain ⟨b', off', e, hlt, hc⟩ := h5 (by omega)
  injection e with e; injection e with e1 e2; subst e1; subst e2
  refine ⟨b, off + n, rfl, hlt, fun i c hi => ?_⟩
  rw [List.getElem?_drop, List.getElem?_take] at hi
  split at hi
  · rw [Nat.add_assoc]; exact hc _ _ hi
  · cases hi
/-- The slice value v reads as the ints l. -/
def SlI (w : World) (v : Value) (l : List Int) : Prop := (∀ z ∈ l, In64 z) ∧ SlV w v (l.map (Value.int .i64))
/-- The slice value v reads as the bools l. -/
def SlB (w : World) (v : Value) (l : List Bool) : Prop := SlV w v (l.map Value.bool)
section
variable {w w' : World} {v : Value} {l : List Int} {bs : List Bool}
theorem SlI.after (h : SlI w v l) (hb : Below w.heap.size w w') : SlI w' v l := ⟨h.1, h.2.after hb⟩
theorem SlB.after (h : SlB w v bs) (hb : Below w.heap.size w w') : SlB w' v bs := SlV.after h hb
theorem SlI.alloc (h : SlI w v l) (o : Obj) : SlI (w.alloc o) v l := ⟨h.1, h.2.alloc o⟩
theorem SlB.alloc (h : SlB w v bs) (o : Obj) : SlB (w.alloc o) v bs := SlV.alloc h o
theorem SlI.soft {n : Nat} (h : SlI w v l) (hs : Soft w n) (hg : w.grownBy w' (some n)) : SlI w' v l := ⟨h.1, h.2.soft hs hg⟩
theorem SlB.soft {n : Nat} (h : SlB w v bs) (hs : Soft w n) (hg : w.grownBy w' (some n)) : SlB w' v bs := SlV.soft h hs hg
theorem SlI.nil (w : World) : SlI w (.slice none 0 0) [] := ⟨by simp, SlV.nil w⟩
theorem SlB.nil (w : World) : SlB w (.slice none 0 0) [] := SlV.nil w
theorem SlI.shape (h : SlI w v l) : ∃ a cap, v = .slice a l.length cap ∧ l.length ≤ cap ∧ cap ≤ 9223372036854775807 ∧ (a = none → cap = 0) := by
  obtain ⟨_, a, cap, h1, h2, h3, h4, _⟩ := h
  rw [List.length_map] at h1 h2
  exact ⟨a, cap, h1, h2, h3, h4⟩
theorem SlB.shape (h : SlB w v bs) : ∃ a cap, v = .slice a bs.length cap ∧ bs.length ≤ cap ∧ cap ≤ 9223372036854775807 ∧ (a = none → cap = 0) := by
  obtain ⟨a, cap, h1, h2, h3, h4, _⟩ := h
  rw [List.length_map] at h1 h2
  exact ⟨a, cap, h1, h2, h3, h4⟩
theorem SlI.cells {a : Option Addr} {n cap : Nat} (h : SlI w (.slice a n cap) l) (hp : 0 < l.length) : ∃ b off, a = some ⟨b, off, none⟩ ∧ b < w.heap.size ∧ ∀ i, i < l.length → w.cell? ⟨b, off + i, none⟩ = some (.int .i64 (ati l i)) := by
  obtain ⟨_, a', cap', h1, _, _, _, h5⟩ := h
  obtain ⟨rfl, _, _⟩ : a = a' ∧ n = (l.map (Value.int .i64)).length ∧ cap = cap' := by injection h1 with e1 e2 e3; exact ⟨e1, e2, e3⟩
  obtain ⟨b, off, e, hlt, hc⟩ := h5 (by simpa using hp)
  exact ⟨b, off, e, hlt, fun i hi => hc i _ (by rw [List.getElem?_map, List.getElem?_eq_getElem hi, ati_get hi]; rfl)⟩
theorem SlB.cells {a : Option Addr} {n cap : Nat} (h : SlB w (.slice a n cap) bs) (hp : 0 < bs.length) : ∃ b off, a = some ⟨b, off, none⟩ ∧ b < w.heap.size ∧ ∀ i, i < bs.length → w.cell? ⟨b, off + i, none⟩ = some (.bool (atb bs i)) := by
  obtain ⟨a', cap', h1, _, _, _, h5⟩ := h
  obtain ⟨rfl, _, _⟩ : a = a' ∧ n = (bs.map Value.bool).length ∧ cap = cap' := by injection h1 with e1 e2 e3; exact ⟨e1, e2, e3⟩
  obtain ⟨b, off, e, hlt, hc⟩ := h5 (by simpa using hp)
  exact ⟨b, off, e, hlt, fun i hi => hc i _ (by rw [List.getElem?_map, List.getElem?_eq_getElem hi, atb_get hi]; rfl)⟩
theorem SlI.part {b off len cap : Nat} (h : SlI w (.slice (some ⟨b, off, none⟩) len cap) l) (n m : Nat) (hnm : n ≤ m) (hm : m ≤ len) : SlI w (.slice (some ⟨b, off + n, none⟩) (m - n) (cap - n)) ((l.take m).drop n) := by
  refine ⟨fun z hz => h.1 z (List.mem_of_mem_take (List.mem_of_mem_drop hz)), ?_⟩
  rw [List.map_drop, List.map_take]
  exact h.2.part n m hnm hm
theorem SlB.part {b off len cap : Nat} (h : SlB w (.slice (some ⟨b, off, none⟩) len cap) bs) (n m : Nat) (hnm : n ≤ m) (hm : m ≤ len) : SlB w (.slice (some ⟨b, off + n, none⟩) (m - n) (cap - n)) ((bs.take m).drop n) := by
  unfold SlB
  rw [List.map_drop, List.map_take]
  exact SlV.part h n m hnm hm
theorem SlB.front {a : Option Addr} {len cap : Nat} (h : SlB w (.slice a len cap) bs) (m : Nat) (hm : m ≤ len) : SlB w (.slice a m cap) (bs.take m) := by
  obtain ⟨a', cap', h1, h2, h3, h4, h5⟩ := h
  obtain ⟨rfl, rfl, rfl⟩ : a = a' ∧ len = (bs.map Value.bool).length ∧ cap = cap' := by injection h1 with e1 e2 e3; exact ⟨e1, e2, e3⟩
  rw [List.length_map] at hm h2 h5
  have hl : (bs.take m).length = m := by rw [List.length_take]; omega
  refine ⟨a, cap, by rw [List.length_map, hl], by rw [List.length_map, hl]; omega, h3, h4, fun hp => ?_⟩
  rw [List.length_map, hl] at hp
  obtain ⟨b, off, e, hlt, hc⟩ := h5 (by omega)
  refine ⟨b, off, e, hlt, fun i c hi => hc i c ?_⟩
  rw [List.getElem?_map, List.getElem?_take] at hi
  rw [List.getElem?_map]
  split at hi
  · exact hi
  · cases hi
end
/-- A rollout. -/
structure Ro where
  hosts : List Int
  waves : List Int
  rate : F
  bound : F
/-- The value v is the rollout R. -/
def IsR (w : World) (v : Value) (R : Ro) : Prop := ∃ vh vw va vb vc vd, v = .agg #[vh, vw, .bool R.rate.neg, va, vb, .bool R.bound.neg, vc, vd] ∧ SlI w vh R.hosts ∧ SlI w vw R.waves ∧ Sl w va R.rate.num ∧ Sl w vb R.rate.den ∧ Sl w vc R.bound.num ∧ Sl w vd R.bound.den
theorem IsR.after {w w' : World} {v : Value} {R : Ro} (h : IsR w v R) (hb : Below w.heap.size w w') : IsR w' v R := by
  obtain ⟨vh, vw, va, vb, vc, vd, e, h1, h2, h3, h4, h5, h6⟩ := h
  exact ⟨vh, vw, va, vb, vc, vd, e, h1.after hb, h2.after hb, h3.after hb, h4.after hb, h5.after hb, h6.after hb⟩
theorem Sl.soft {w w' : World} {v : Value} {l : List Nat} {n : Nat} (h : Sl w v l) (hs : Soft w n) (hg : w.grownBy w' (some n)) : Sl w' v l := h.grown hg hs.noTag
theorem IsR.soft {w w' : World} {v : Value} {R : Ro} {n : Nat} (h : IsR w v R) (hs : Soft w n) (hg : w.grownBy w' (some n)) : IsR w' v R := by
  obtain ⟨vh, vw, va, vb, vc, vd, e, h1, h2, h3, h4, h5, h6⟩ := h
  exact ⟨vh, vw, va, vb, vc, vd, e, h1.soft hs hg, h2.soft hs hg, h3.soft hs hg, h4.soft hs hg, h5.soft hs hg, h6.soft hs hg⟩
/-- The rollout's value, written out. -/
theorem IsR.open {w : World} {v : Value} {R : Ro} (h : IsR w v R) : ∃ (p0 p1 p2 p3 p4 p5 : Option Addr) (c0 c1 c2 c3 c4 c5 : Nat),
    v = .agg #[.slice p0 R.hosts.length c0, .slice p1 R.waves.length c1, .bool R.rate.neg, .slice p2 R.rate.num.length c2, .slice p3 R.rate.den.length c3, .bool R.bound.neg, .slice p4 R.bound.num.length c4, .slice p5 R.bound.den.length c5] ∧
    SlI w (.slice p0 R.hosts.length c0) R.hosts ∧ SlI w (.slice p1 R.waves.length c1) R.waves ∧ IsF w (.agg #[.bool R.rate.neg, .slice p2 R.rate.num.length c2, .slice p3 R.rate.den.length c3]) R.rate ∧
    IsF w (.agg #[.bool R.bound.neg, .slice p4 R.bound.num.length c4, .slice p5 R.bound.den.length c5]) R.bound := by
  obtain ⟨vh, vw, va, vb, vc, vd, rfl, h1, h2, h3, h4, h5, h6⟩ := h
  obtain ⟨p0, c0, rfl, _⟩ := h1.shape
  obtain ⟨p1, c1, rfl, _⟩ := h2.shape
  obtain ⟨p2, c2, rfl, _, _⟩ := h3.shape
  obtain ⟨p3, c3, rfl, _, _⟩ := h4.shape
  obtain ⟨p4, c4, rfl, _, _⟩ := h5.shape
  obtain ⟨p5, c5, rfl, _, _⟩ := h6.shape
  exact ⟨p0, p1, p2, p3, p4, p5, c0, c1, c2, c3, c4, c5, rfl, h1, h2, ⟨_, _, rfl, h3, h4⟩, ⟨_, _, rfl, h5, h6⟩⟩
/-- The eight cells of a rollout. -/
theorem Box.cells8 {w : World} {b : Nat} {x0 x1 x2 x3 x4 x5 x6 x7 : Value} {t : TypeId} (h : Box w b #[x0, x1, x2, x3, x4, x5, x6, x7] t) : w.cell? ⟨b, 0, none⟩ = some x0 ∧ w.cell? ⟨b, 1, none⟩ = some x1 ∧ w.cell? ⟨b, 2, none⟩ = some x2 ∧ w.cell? ⟨b, 3, none⟩ = some x3 ∧ w.cell? ⟨b, 4, none⟩ = some x4 ∧ w.cell? ⟨b, 5, none⟩ = some x5 ∧ w.cell? ⟨b, 6, none⟩ = some x6 ∧ w.cell? ⟨b, 7, none⟩ = some x7 :=
  ⟨h.cell 0, h.cell 1, h.cell 2, h.cell 3, h.cell 4, h.cell 5, h.cell 6, h.cell 7⟩
end Go.Proofs.Ytebmegodeglobaa

namespace Go.Proofs.Ytebmegodeglobaa
open Go.RowKit

/-- n is a number of trials, and k from 0 to most. -/
def trialsB (n k most : Int) : Bool := decide (0 ≤ n) && decide (n ≤ 64) && decide (0 ≤ k) && decide (k ≤ most)
theorem trialsB_iff {n k most : Int} : trialsB n k most = true ↔ 0 ≤ n ∧ n ≤ 64 ∧ 0 ≤ k ∧ k ≤ most := by unfold trialsB; simp [and_assoc]

set_option maxHeartbeats 1000000 in
theorem ttrials_c (w : World) (n k m : Int) : Calls Try.prog 32 #[.int .i64 n, .int .i64 k, .int .i64 m] w fun e w' => e = .returned (.bool (trialsB n k m)) ∧ w' = w := by
  by_cases h1 : 0 ≤ n
  · by_cases h2 : n ≤ 64
    · by_cases h3 : 0 ≤ k
      · by_cases h4 : k ≤ m
        · have hs := Lib.hid (trialsB_iff.2 ⟨h1, h2, h3, h4⟩)
          go_enter Try.func32, Try.ntmps32
          go_wp2
          go_ret
          exact ⟨ret_bool (by rw [hs.out]), rfl⟩
        · have hs : Hid (trialsB n k m = false) := by show _ = _; unfold trialsB; simp [h4]
          go_enter Try.func32, Try.ntmps32
          go_wp2
          go_ret
          exact ⟨ret_bool (by rw [hs.out]), rfl⟩
      · have hs : Hid (trialsB n k m = false) := by show _ = _; unfold trialsB; simp [h3]
        go_enter Try.func32, Try.ntmps32
        go_wp2
        go_ret
        exact ⟨ret_bool (by rw [hs.out]), rfl⟩
    · have hs : Hid (trialsB n k m = false) := by show _ = _; unfold trialsB; simp [h2]
      go_enter Try.func32, Try.ntmps32
      go_wp2
      go_ret
      exact ⟨ret_bool (by rw [hs.out]), rfl⟩
  · have hs : Hid (trialsB n k m = false) := by show _ = _; unfold trialsB; simp [h1]
    go_enter Try.func32, Try.ntmps32
    go_wp2
    go_ret
    exact ⟨ret_bool (by rw [hs.out]), rfl⟩

theorem run_field1 (w : World) (b : Bool) (p q : Option Addr) (n m c d : Nat) :
    Sem.run Try.prog (Instr.field 26 (.agg #[.bool b, .slice p n c, .slice q m d]) 1) w = .ok (.slice p n c) w := by kernel_rfl
attribute [local go_sem ↓] run_field1
/-- What Choose returns. -/
def chooseF (n k : Int) : List Nat × Int := if trialsB n k n = true then (limbs (ch n.toNat k.toNat), 0) else ([], 2)
/-- A number and an error. -/
def RetN (w : World) (r : List Nat × Int) (e : Ending) (w' : World) : Prop := ∃ v, e = .returned (.tuple #[v, .int .i64 r.2]) ∧ Sl w' v r.1 ∧ Below w.heap.size w w'

theorem start1 (w : World) (A : Array Value) (t : TypeId) : ∃ W0, W0 = w.alloc (.cells A t) ∧ Box W0 w.heap.size A t ∧ w.heap.size < W0.heap.size ∧ Below w.heap.size w W0 :=
  ⟨_, rfl, Box.new w A t, by simp, (Below.refl _ w).alloc (Nat.le_refl _) _⟩

/-- An error and nothing else. -/
def RetE (w : World) (n : Int) (e : Ending) (w' : World) : Prop := e = .returned (.int .i64 n) ∧ Below w.heap.size w w'
/-- The error of a fraction from 0 to 1. -/
noncomputable def fracE (x : F) : Int := open Classical in if ValidF x then (if x.neg = true ∨ val x.den < val x.num then 2 else 0) else 1
theorem fracE_no {x : F} (h : ¬ ValidF x) : fracE x = 1 := by unfold fracE; rw [if_neg h]
theorem fracE_yes {x : F} (h : ValidF x) : fracE x = if x.neg = true ∨ val x.den < val x.num then 2 else 0 := by unfold fracE; rw [if_pos h]
theorem cmp_one {x : F} (h : ValidF x) (hn : x.neg = false) : (cmpF x (Wh 1)).1 = if val x.num < val x.den then -1 else if val x.num = val x.den then 0 else 1 := by
  have h1 : (limbs 1).length ≤ 32 := by rw [limbs_one_len]; omega
  have e1 : val (Wh 1).num = 1 := val_limbs 1
  have e2 : val (Wh 1).den = 1 := val_limbs 1
  have e3 : (Wh 1).neg = false := rfl
  rw [cmpF_yes ⟨h, valid_wh h1⟩, hn, e1, e2, e3]
  unfold ordN
  rw [if_pos rfl, if_neg (by simp), Nat.mul_one, Nat.one_mul]

set_option maxRecDepth 100000 in
set_option maxHeartbeats 1000000 in
theorem fraction_c (w : World) (v : Value) (x : F) (h : IsF w v x) : Calls Try.prog 41 #[v] w (RetE w (fracE x)) := by
  have HX := h
  obtain ⟨va, vb, rfl, h1, h2⟩ := h
  obtain ⟨W0, hW, bx, hsz, hb0⟩ := start1 w #[.bool x.neg, va, vb] 26
  obtain ⟨c0, c1, c2⟩ := bx.cells3
  obtain ⟨p, cp, rfl, _, _⟩ := h1.shape
  obtain ⟨q, cq, rfl, _, _⟩ := h2.shape
  have H1 := Lib.hid (HX.after hb0)
  have HB0 := Lib.hid hb0
  have BX := Lib.hid bx
  clear HX bx hb0 h1 h2
  by_cases hv : ValidF x
  · have hv' := Lib.hid hv
    cases hneg : x.neg with
    | true =>
      rw [hneg] at hW c0 H1 BX
      have hs : Hid (fracE x = 2) := by show _ = _; rw [fracE_yes hv, if_pos (.inl hneg)]
      clear hv hneg
      go_enter Try.func41, Try.ntmps41
      go_upto_region 1 with fail
      rw [← hW]
      clear hW
      go_wp2_with fail
      refine (Valid_c _ _ _ H1.out).mono ?_
      intro e w1 hr
      obtain ⟨rfl, hb1⟩ := hr.yes hv'.out
      obtain ⟨c0', c1', c2'⟩ := (BX.out.after hb1).cells3
      have KW := Lib.hid (HB0.out.trans (hb1.mono HB0.out.size))
      clear hr hb1 c0 c1 c2 H1
      go_upto_region 2 with fail
      go_quiet (fail)
      go_wp2_with fail
      go_ret
      exact ⟨ret_int (by rw [hs.out]), KW.out.trans (below_drewN _ _ _)⟩
    | false =>
      have hsg := cmp_one hv hneg
      have hs : fracE x = if val x.den < val x.num then 2 else 0 := by rw [fracE_yes hv, hneg]; simp
      rw [hneg] at hW c0 H1 BX
      have HS := Lib.hid hs
      obtain ⟨r, hr0⟩ : ∃ r, (cmpF x (Wh 1)).1 = r := ⟨_, rfl⟩
      rw [hr0] at hsg
      have HSG := Lib.hid hsg
      have HR0 := Lib.hid hr0
      clear hv hneg hs hsg hr0
      go_enter Try.func41, Try.ntmps41
      go_upto_region 1 with fail
      rw [← hW]
      clear hW
      go_wp2_with fail
      refine (Valid_c _ _ _ H1.out).mono ?_
      intro e w1 hr
      obtain ⟨rfl, hb1⟩ := hr.yes hv'.out
      obtain ⟨c0', c1', c2'⟩ := (BX.out.after hb1).cells3
      have KW := Lib.hid (HB0.out.trans (hb1.mono HB0.out.size))
      have K1 := Lib.hid (H1.out.after hb1)
      clear hr hb1 c0 c1 c2 H1
      go_upto_region 2 with fail
      go_region_held3 (fun w' => w'.cell? ⟨w.heap.size, 0, none⟩ = some (.bool false) ∧ w'.cell? ⟨w.heap.size, 1, none⟩ = some (.slice p x.num.length cp) ∧ w'.cell? ⟨w.heap.size, 2, none⟩ = some (.slice q x.den.length cq))
        (first
         | go_keep
         | (exact ⟨keep_cell (below_of_drew hb2) c0', keep_cell (below_of_drew hb2) c1', keep_cell (below_of_drew hb2) c2'⟩)
         | (exact ⟨keep_cell hb3 (keep_cell (below_of_drew hb2) c0'), keep_cell hb3 (keep_cell (below_of_drew hb2) c1'), keep_cell hb3 (keep_cell (below_of_drew hb2) c2')⟩))
        (first
         | (go_at_call 63; refine (whole_c _ 1 (by omega)).mono ?_; rintro e w2 ⟨v2, rfl, hv2, hb2⟩)
         | (go_at_call 62; refine (tsign_c _ _ _ x (Wh 1) (K1.out.after (below_of_drew hb2)) hv2).mono ?_; rw [HR0.out]; rintro e w3 ⟨rfl, hb3⟩))
      have hfin : Hid (Below w.heap.size w w3) := KW.out.trans (((below_of_drew hb2).trans (hb3.mono (below_of_drew hb2).size)).mono KW.out.size)
      clear hb2 hb3 hv2 c0' c1' c2' K1 KW
      by_cases g1 : 0 < r
      · have hs : Hid (fracE x = 2) := by
          have e := HSG.out
          show _ = _
          rw [HS.out, if_pos]
          rw [e] at g1
          rcases Nat.lt_trichotomy (val x.num) (val x.den) with h | h | h
          · rw [if_pos h] at g1; omega
          · rw [if_neg (by omega), if_pos h] at g1; omega
          · exact h
        go_wp2_with fail
        go_ret
        exact ⟨ret_int (by rw [hs.out]), hfin.out⟩
      · have hs : Hid (fracE x = 0) := by
          have e := HSG.out
          show _ = _
          rw [HS.out, if_neg]
          intro h
          rw [e, if_neg (by omega), if_neg (by omega)] at g1
          omega
        go_wp2_with fail
        go_ret
        exact ⟨ret_int (by rw [hs.out]), hfin.out⟩
  · have hs := Lib.hid (fracE_no hv)
    have hv' := Lib.hid hv
    clear hv
    go_enter Try.func41, Try.ntmps41
    go_upto_region 1 with fail
    rw [← hW]
    clear hW
    go_wp2_with fail
    refine (Valid_c _ _ _ H1.out).mono ?_
    intro e w1 hr
    obtain ⟨rfl, hb1⟩ := hr.no hv'.out
    have KW := Lib.hid (HB0.out.trans (hb1.mono HB0.out.size))
    clear hr hb1 c0 c1 c2 H1
    go_wp2_with fail
    go_ret
    exact ⟨ret_int (by rw [hs.out]), KW.out⟩
end Go.Proofs.Ytebmegodeglobaa

namespace Go.Proofs.Ytebmegodeglobaa
open Go.RowKit

/-- The error of a rate. -/
noncomputable def rateE (x : F) : Int := open Classical in if fracE x = 0 then (if 1000 < val x.den then 2 else 0) else fracE x
theorem rateE_bad {x : F} (h : fracE x ≠ 0) : rateE x = fracE x := by unfold rateE; rw [if_neg h]
theorem rateE_good {x : F} (h : fracE x = 0) : rateE x = if 1000 < val x.den then 2 else 0 := by unfold rateE; rw [if_pos h]
theorem fracE_zero {x : F} (h : fracE x = 0) : ValidF x ∧ x.neg = false ∧ val x.num ≤ val x.den := by
  by_cases hv : ValidF x
  · rw [fracE_yes hv] at h
    by_cases hc : x.neg = true ∨ val x.den < val x.num
    · rw [if_pos hc] at h; omega
    · refine ⟨hv, ?_, ?_⟩
      · cases hx : x.neg
        · rfl
        · exact absurd (.inl hx) hc
      · rcases Nat.lt_or_ge (val x.den) (val x.num) with h1 | h1
        · exact absurd (.inr h1) hc
        · exact h1
  · rw [fracE_no hv] at h; omega
theorem fracE_cases (x : F) : fracE x = 0 ∨ fracE x = 1 ∨ fracE x = 2 := by
  by_cases hv : ValidF x
  · rw [fracE_yes hv]; split
    · exact .inr (.inr rfl)
    · exact .inl rfl
  · rw [fracE_no hv]; exact .inr (.inl rfl)

set_option maxRecDepth 100000 in
set_option maxHeartbeats 1000000 in
theorem rate_c (w : World) (v : Value) (x : F) (h : IsF w v x) : Calls Try.prog 48 #[v] w (RetE w (rateE x)) := by
  have HX := h
  obtain ⟨va, vb, rfl, h1, h2⟩ := h
  obtain ⟨W0, hW, bx, hsz, hb0⟩ := start1 w #[.bool x.neg, va, vb] 26
  obtain ⟨c0, c1, c2⟩ := bx.cells3
  obtain ⟨p, cp, rfl, _, _⟩ := h1.shape
  have H1 := Lib.hid (HX.after hb0)
  have H2 := Lib.hid (h2.after hb0)
  have HB0 := Lib.hid hb0
  have BX := Lib.hid bx
  clear HX bx hb0 h1
  by_cases hf : fracE x = 0
  · have hv := (fracE_zero hf).1
    have hpos := hv.2.2.pos
    have hcan := hv.2.1
    have hs := Lib.hid (rateE_good hf)
    have hlp : 0 < x.den.length := by
      unfold Canon at hcan
      rw [hcan]
      exact limbs_len_pos hpos
    obtain ⟨h0, a, cap, rfl, k2, k3, k5, k6⟩ := h2
    obtain ⟨b, off, rfl, hbl, hc⟩ := k6 hlp
    have hc0 := hc 0 hlp
    rw [Nat.add_zero] at hc0
    have hd0 := keep_cell HB0.out hc0
    have hlim : Hid (x.den.length = 1 → lim x.den 0 = val x.den) := by
      intro hl
      obtain ⟨d, hd⟩ := List.length_eq_one_iff.1 hl
      rw [hd]; simp [lim, val]
    have hbig : Hid (1 < x.den.length → 1000 < val x.den) := by
      intro hl
      unfold Canon at hcan
      rcases Nat.lt_or_ge 1000 (val x.den) with h | h
      · exact h
      · have := limbs_len_lt (n := val x.den) (k := 1) (by omega)
        rw [← hcan] at this
        omega
    have HF := Lib.hid hf
    clear hf hv hpos hcan k5 k6 hc hc0
    by_cases hl : 1 < x.den.length
    · have hs2 : Hid (rateE x = 2) := by show _ = _; rw [hs.out, if_pos (hbig.out hl)]
      go_enter Try.func48, Try.ntmps48
      go_upto_region 1 with fail
      rw [← hW]
      clear hW
      go_wp2_with fail
      refine (fraction_c _ _ _ H1.out).mono ?_
      rw [HF.out]
      rintro e w1 ⟨rfl, hb1⟩
      obtain ⟨c0', c1', c2'⟩ := (BX.out.after hb1).cells3
      have e0 := keep_cell hb1 hd0
      have KW := Lib.hid (HB0.out.trans (hb1.mono HB0.out.size))
      clear hb1 c0 c1 c2 hd0 H1
      go_wp2_with fail
      go_ret
      exact ⟨ret_int (by rw [hs2.out]), KW.out⟩
    · have hl1 : x.den.length = 1 := by omega
      have hlv := hlim.out hl1
      have HL := Lib.hid hl1
      obtain ⟨d, hd⟩ : ∃ d, lim x.den 0 = d := ⟨_, rfl⟩
      rw [hd] at hlv hd0
      have hdb : d < 4294967296 := by rw [← hd]; exact h0.getD 0
      clear hl1 hd
      by_cases hd1 : 1000 < d
      · have hs2 : Hid (rateE x = 2) := by show _ = _; rw [hs.out, if_pos (by omega)]
        clear hlv
        go_enter Try.func48, Try.ntmps48
        go_upto_region 1 with fail
        rw [← hW]
        clear hW
        go_wp2_with fail
        refine (fraction_c _ _ _ H1.out).mono ?_
        rw [HF.out]
        rintro e w1 ⟨rfl, hb1⟩
        obtain ⟨c0', c1', c2'⟩ := (BX.out.after hb1).cells3
        have e0 := keep_cell hb1 hd0
        have KW := Lib.hid (HB0.out.trans (hb1.mono HB0.out.size))
        clear hb1 c0 c1 c2 hd0 H1
        go_wp2_with fail
        go_ret
        exact ⟨ret_int (by rw [hs2.out]), KW.out⟩
      · have hs2 : Hid (rateE x = 0) := by show _ = _; rw [hs.out, if_neg (by omega)]
        clear hlv
        go_enter Try.func48, Try.ntmps48
        go_upto_region 1 with fail
        rw [← hW]
        clear hW
        go_wp2_with fail
        refine (fraction_c _ _ _ H1.out).mono ?_
        rw [HF.out]
        rintro e w1 ⟨rfl, hb1⟩
        obtain ⟨c0', c1', c2'⟩ := (BX.out.after hb1).cells3
        have e0 := keep_cell hb1 hd0
        have KW := Lib.hid (HB0.out.trans (hb1.mono HB0.out.size))
        clear hb1 c0 c1 c2 hd0 H1
        go_wp2_with fail
        go_ret
        exact ⟨ret_int (by rw [hs2.out]), KW.out⟩
  · have hs := Lib.hid (rateE_bad hf)
    have hcs := fracE_cases x
    obtain ⟨r, hr⟩ : ∃ r, fracE x = r := ⟨_, rfl⟩
    rw [hr] at hf hcs hs
    have HR := Lib.hid hr
    have hrp : 0 < r := by omega
    have hrq : r ≤ 2 := by omega
    clear hr hcs hf
    go_enter Try.func48, Try.ntmps48
    go_upto_region 1 with fail
    rw [← hW]
    clear hW
    go_wp2_with fail
    refine (fraction_c _ _ _ H1.out).mono ?_
    rw [HR.out]
    rintro e w1 ⟨rfl, hb1⟩
    have KW := Lib.hid (HB0.out.trans (hb1.mono HB0.out.size))
    clear hb1 c0 c1 c2 H1
    go_wp2_with fail
    go_ret
    exact ⟨ret_int (by rw [hs.out]), KW.out⟩

/-- The error of a rate and numbers. -/
noncomputable def checkE (x : F) (good : Bool) : Int := if rateE x = 0 then (if good = true then 0 else 2) else rateE x
theorem rateE_cases (x : F) : rateE x = 0 ∨ rateE x = 1 ∨ rateE x = 2 := by
  by_cases h : fracE x = 0
  · rw [rateE_good h]; split
    · exact .inr (.inr rfl)
    · exact .inl rfl
  · rw [rateE_bad h]; exact fracE_cases x

set_option maxRecDepth 100000 in
set_option maxHeartbeats 1000000 in
theorem checked_c (w : World) (v : Value) (x : F) (good : Bool) (h : IsF w v x) : Calls Try.prog 31 #[v, .bool good] w (RetE w (checkE x good)) := by
  have HX := h
  obtain ⟨va, vb, rfl, h1, h2⟩ := h
  obtain ⟨W0, hW, bx, hsz, hb0⟩ := start1 w #[.bool x.neg, va, vb] 26
  obtain ⟨c0, c1, c2⟩ := bx.cells3
  have H1 := Lib.hid (HX.after hb0)
  have HB0 := Lib.hid hb0
  clear HX bx hb0 h1 h2
  by_cases hf : rateE x = 0
  · have HF := Lib.hid hf
    clear hf
    cases good with
    | true =>
      have hs : Hid (checkE x true = 0) := by show _ = _; unfold checkE; rw [if_pos HF.out]; rfl
      go_enter Try.func31, Try.ntmps31
      go_upto_region 1 with fail
      rw [← hW]
      clear hW
      go_wp2_with fail
      refine (rate_c _ _ _ H1.out).mono ?_
      rw [HF.out]
      rintro e w1 ⟨rfl, hb1⟩
      have KW := Lib.hid (HB0.out.trans (hb1.mono HB0.out.size))
      clear hb1 c0 c1 c2 H1
      go_wp2_with fail
      go_ret
      exact ⟨ret_int (by rw [hs.out]), KW.out⟩
    | false =>
      have hs : Hid (checkE x false = 2) := by show _ = _; unfold checkE; rw [if_pos HF.out]; rfl
      go_enter Try.func31, Try.ntmps31
      go_upto_region 1 with fail
      rw [← hW]
      clear hW
      go_wp2_with fail
      refine (rate_c _ _ _ H1.out).mono ?_
      rw [HF.out]
      rintro e w1 ⟨rfl, hb1⟩
      have KW := Lib.hid (HB0.out.trans (hb1.mono HB0.out.size))
      clear hb1 c0 c1 c2 H1
      go_wp2_with fail
      go_ret
      exact ⟨ret_int (by rw [hs.out]), KW.out⟩
  · have hs : Hid (checkE x good = rateE x) := by show _ = _; unfold checkE; rw [if_neg hf]
    have hcs := rateE_cases x
    obtain ⟨r, hr⟩ : ∃ r, rateE x = r := ⟨_, rfl⟩
    rw [hr] at hf hcs hs
    have HR := Lib.hid hr
    have hrp : 0 < r := by omega
    have hrq : r ≤ 2 := by omega
    clear hr hcs hf
    go_enter Try.func31, Try.ntmps31
    go_upto_region 1 with fail
    rw [← hW]
    clear hW
    go_wp2_with fail
    refine (rate_c _ _ _ H1.out).mono ?_
    rw [HR.out]
    rintro e w1 ⟨rfl, hb1⟩
    have KW := Lib.hid (HB0.out.trans (hb1.mono HB0.out.size))
    clear hb1 c0 c1 c2 H1
    go_wp2_with fail
    go_ret
    exact ⟨ret_int (by rw [hs.out]), KW.out⟩
end Go.Proofs.Ytebmegodeglobaa
