/- A range over a function, in general: after r rounds memory is as a relation J r says; the body may write memory. One law for the caller.
   Memory words, more: slices of ints and of bools; a rollout as a value.
   Walks of the library: slices.Clone of ints and of bools.
   Walks of package tails: rate, checked. -/
import Derived.RangeFuncNested
import Derived.RangeFuncBound
import Derived.RangeFuncCalls
import Derived.RangeFuncLeaves
import Derived.Shelf.Abstract
import Derived.Test.YtjjefdkadgkhfaaK01
import Derived.Test.YtjjefdkadgkhfaaK11
import Derived.Test.YtjjefdkadgkhfaaK10
set_option linter.unusedVariables false
namespace Go.Proofs.Ytjjefdkadgkhfaa
open Go.RowKit

/-- Block l holds no data: the state of a loop, or calls that are put off. -/
def Soft (W : World) (l : Nat) : Prop := (∃ L, W.heap[l]? = some (.loop L)) ∨ ∃ d, W.heap[l]? = some (.deferred d)
theorem Soft.lt {W : World} {l : Nat} (h : Soft W l) : l < W.heap.size := by
  rcases h with ⟨L, h⟩ | ⟨d, h⟩ <;> exact (Array.getElem?_eq_some_iff.1 h).1
theorem Soft.ne_box {W : World} {l b : Nat} {cs : Array Value} {t : TypeId} {fz : Nat × Nat} (h : Soft W l) (hb : W.heap[b]? = some (.cells cs t fz)) : b ≠ l := by
  rintro rfl
  rcases h with ⟨L, h⟩ | ⟨d, h⟩ <;> rw [hb] at h <;> cases h
theorem Soft.noTag {W : World} {l : Nat} (h : Soft W l) : ∀ g, some l = some g → ¬ Tag32 W g := by
  rintro g e ⟨cs, fz, h'⟩
  injection e with e
  exact h.ne_box h' e.symm
theorem Soft.cell_ne {W : World} {l b o : Nat} {v : Value} (h : Soft W l) (hc : W.cell? ⟨b, o, none⟩ = some v) : b ≠ l := by
  rintro rfl
  rcases h with ⟨L, h⟩ | ⟨d, h⟩ <;> simp [World.cell?, h] at hc
theorem Box.soft {W W' : World} {l b : Nat} {cs : Array Value} {t : TypeId} (h : Box W b cs t) (hs : Soft W l) (hg : W.grownBy W' (some l)) : Box W' b cs t :=
  (hg.block b h.lt (by intro e; injection e with e; exact hs.ne_box h e)).trans h
theorem cell_soft {W W' : World} {l b o : Nat} {v : Value} (h : W.cell? ⟨b, o, none⟩ = some v) (hs : Soft W l) (hg : W.grownBy W' (some l)) : W'.cell? ⟨b, o, none⟩ = some v :=
  hg.cell h (by intro e; injection e with e; exact hs.cell_ne h e)
theorem putObj_grown2 (W : World) (l : Nat) (o : Obj) : W.grownBy (W.putObj l o) (some l) := grownBy_putObj' W l o
/-- Blocks from B on that hold no data are as they were. -/
def KeepSoft (B : Nat) (w W : World) : Prop := w.heap.size ≤ W.heap.size ∧ ∀ b, B ≤ b → Soft w b → W.heap[b]? = w.heap[b]?
theorem KeepSoft.refl (B : Nat) (w : World) : KeepSoft B w w := ⟨Nat.le_refl _, fun _ _ _ => rfl⟩
theorem KeepSoft.of_below {B : Nat} {w W : World} (h : Below w.heap.size w W) : KeepSoft B w W := ⟨h.size, fun b _ hs => h.block b hs.lt⟩
theorem KeepSoft.soft {B : Nat} {w W : World} (h : KeepSoft B w W) {b : Nat} (hb : B ≤ b) (hs : Soft w b) : Soft W b := by
  have := h.2 b hb hs
  rcases hs with ⟨L, h⟩ | ⟨d, h⟩
  · exact .inl ⟨L, this.trans h⟩
  · exact .inr ⟨d, this.trans h⟩
theorem KeepSoft.trans {B : Nat} {w W V : World} (h : KeepSoft B w W) (k : KeepSoft B W V) : KeepSoft B w V :=
  ⟨Nat.le_trans h.1 k.1, fun b hb hs => (k.2 b hb (h.soft hb hs)).trans (h.2 b hb hs)⟩
theorem KeepSoft.grown {B : Nat} {w W V : World} {row : Option Nat} (h : KeepSoft B w W) (hg : W.grownBy V row) (hr : ∀ g, row = some g → ¬ Soft W g) : KeepSoft B w V := by
  refine h.trans ⟨hg.size, fun b hb hs => hg.block b hs.lt ?_⟩
  intro e
  exact hr b e.symm hs
theorem KeepSoft.setCell {B : Nat} {w W : World} (h : KeepSoft B w W) {b i : Nat} {u : Value} {v : Value} (hc : W.cell? ⟨b, i, none⟩ = some v) : KeepSoft B w (W.setCell ⟨b, i, none⟩ u) := by
  refine h.trans ⟨by simp [World.setCell], fun b' _ hs => Below.heap_setCell W ⟨b, i, none⟩ u b' ?_⟩
  rintro rfl
  exact hs.cell_ne hc rfl
theorem KeepSoft.below {B : Nat} {w W V : World} (h : KeepSoft B w W) (hb : Below W.heap.size W V) : KeepSoft B w V := h.trans (.of_below hb)
/-- How the body of a round may be left. -/
def roundPost (B : Nat) (J X : World → Prop) (w2 : World) : Exit → Act → World → Prop
  | .normal, _, W3 => J W3 ∧ KeepSoft B w2 W3
  | .ret, _, W3 => X W3 ∧ KeepSoft B w2 W3
  | _, _, _ => False

theorem wpIn_range_inv {P : Program} {F : Fence} {n : Nat} {g : Operand} {ps : Array Tmp} {assign body : Code} {Q : Exit → Act → World → Prop} {a : Act} {w : World}
    (hro : F.round = none) (h1 : 1 ≤ n) {gf : Nat} {lb : Array Value} (hg : a.eval g = .func (.func gf) #[] lb) (hFg : F.fn gf) (eg : ∀ args w, (callFunc gf args).run P w = .ok (.enter gf args) w)
    (N : Nat) (J : Nat → World → Prop) (V : Nat → Array Value → World → Prop) (X : Nat → World → Prop) (hV : ∀ r args W, V r args W → args.size = ps.size)
    (hJB : ∀ r W, J r W → w.heap.size ≤ W.heap.size)
    (hJb : ∀ r W W', J r W → Below W.heap.size W W' → J r W')
    (hJl : ∀ r W W' l, w.heap.size ≤ l → J r W → Soft W l → W.grownBy W' (some l) → J r W')
    (hJ0 : J 0 w)
    (hiter : ∀ (l : Nat) (W1 : World) (J' Y : Nat → World → Prop), (∀ r W, J' r W → J r W) → (∀ r W W', J' r W → Below W.heap.size W W' → J' r W') → J' 0 W1 →
      (∀ (r : Nat) (args : Array Value) (W : World), r < N → J' r W → V r args W →
        YieldAt F (n - 1 - 1) P l args W fun e W' => (e = .returned (.bool true) ∧ J' (r + 1) W') ∨ (e = .returned (.bool false) ∧ Y r W')) →
      CallsIn F (n - 1) P gf (#[.func (.yield l) #[] #[]] ++ lb) W1 fun e W' => (∃ v, e = .returned v) ∧ (J' N W' ∨ ∃ r, r < N ∧ Y r W'))
    (A : Nat → Array Value → Act → World → World → Prop) (hA : ∀ r args a1 W w1, A r args a1 W w1 → Below W.heap.size W w1)
    (hassign : ∀ (l r : Nat) (args : Array Value) (W : World) (K : Act → World → Prop), r < N → J r W → V r args W → (∀ a1 w1, A r args a1 W w1 → K a1 w1) →
      assign.wpIn (F.inRound l) (n - 1 - 1) P (Exit.then K (fun _ _ _ => False)) { tmps := (ps.zip args).foldl (fun t (p, v) => t.setIfInBounds p v) a.tmps, defers := [] } W)
    (hbody : ∀ (l r : Nat) (args : Array Value) (W w1 w2 : World) (a1 : Act), r < N → J r W → V r args W → A r args a1 W w1 → J r w2 → Soft w1 l → l < W.heap.size → w1.grownBy w2 (some l) →
      body.wpIn (F.inRound l) (n - 1 - 1) P (roundPost w.heap.size (J (r + 1)) (X r) w2) a1 w2)
    (hdone : ∀ W, J N W → W.heap[w.heap.size]? = some (.deferred (some [])) → Q .normal { a with defers := { target := .collected w.heap.size, args := #[] } :: a.defers } W)
    (hstop : ∀ (l r : Nat) (W3 W : World), r < N → X r W3 → w.heap.size < l → Soft W3 l → W3.grownBy W (some l) → W.heap[w.heap.size]? = some (.deferred (some [])) →
      Code.ret.wpIn F n P Q { a with defers := { target := .collected w.heap.size, args := #[] } :: a.defers } W) :
    (Code.rangeFunc g ps assign body).wpIn F n P Q a w := by
  refine wpIn_rangeFunc ?_
  intro fn hfn
  rw [hro]
  obtain ⟨rec, hrec⟩ : ∃ rec : LoopState → Option Code → Loop, rec = fun st pe => { state := st, pending := pe, fn, tmps := a.tmps, params := ps, assign, body, defers := w.heap.size } := ⟨_, rfl⟩
  obtain ⟨W1, hW1⟩ : ∃ W1, W1 = (w.alloc (.deferred (some []))).alloc (.loop (rec .ready none)) := ⟨_, rfl⟩
  have hw1 : Below w.heap.size w W1 := hW1 ▸ ((Below.refl _ w).alloc (Nat.le_refl _) _).alloc (by simp) _
  have hl1 : W1.heap[w.heap.size + 1]? = some (.loop (rec .ready none)) := by
    rw [hW1]; have := heap_alloc_new (w.alloc (.deferred (some []))) (.loop (rec .ready none)); rwa [World.size_alloc] at this
  have hd1 : W1.heap[w.heap.size]? = some (.deferred (some [])) := by
    rw [hW1]; exact (Below.heap_alloc _ _ _ (by simp)).trans (heap_alloc_new w _)
  have hs1 : W1.heap.size = w.heap.size + 2 := by rw [hW1]; simp
  refine ⟨w.heap.size + 1, [{ target := .collected w.heap.size, args := #[] }], W1, { target := .fn (.func gf) lb, args := #[.func (.yield (w.heap.size + 1)) #[] #[]] }, W1, gf, #[.func (.yield (w.heap.size + 1)) #[] #[]] ++ lb, W1, ?_, ?_, ?_, ?_, fun _ => h1, ?_⟩
  · rw [hW1, hrec]; exact run_enterLoop_outer _ _ _ _ _
  · simp only [resolve, hg]
    simp [go_sem]
  · intro f' hf'; simp [Target.leads] at hf'; subst hf'; exact hFg
  · simp [invoke, go_sem, eg]
  · refine (hiter (w.heap.size + 1) W1 (fun r W => J r W ∧ W.heap[w.heap.size + 1]? = some (.loop (rec .ready none)) ∧ W.heap[w.heap.size]? = some (.deferred (some [])))
      (fun r W' => ∃ W3, X r W3 ∧ W3.heap[w.heap.size + 1]? = some (.loop (rec .busy none)) ∧ W3.heap[w.heap.size]? = some (.deferred (some [])) ∧ W' = W3.putObj (w.heap.size + 1) (.loop (rec .done (some .ret)))) (fun r W h => h.1) ?_ ⟨hJb _ _ _ hJ0 hw1, hl1, hd1⟩ ?_).mono ?_
    · rintro r W W' ⟨h, hl, hd⟩ hb
      exact ⟨hJb _ _ _ h hb, (hb.block _ (Array.getElem?_eq_some_iff.1 hl).1).trans hl, (hb.block _ (Array.getElem?_eq_some_iff.1 hd).1).trans hd⟩
    · -- a round
      rintro r args W hr ⟨hj, hl, hd⟩ hv
      have hsz := hJB _ _ hj
      have hlt := (Array.getElem?_eq_some_iff.1 hl).1
      have hy := run_yield (P := P) (args := args) hl (by rw [hrec]; exact hV _ _ _ hv)
      rw [hrec] at hy
      refine ⟨fn, _, assign, body, hy, roundIn_of_wpIn hfn (hassign _ r args W _ hr hj hv ?_)⟩
      intro a1 w1 ha
      have hbw1 := hA _ _ _ _ _ ha
      have hlw1 : w1.heap[w.heap.size + 1]? = some (.loop (rec .ready none)) := (hbw1.block _ (by omega)).trans hl
      have hdw1 : w1.heap[w.heap.size]? = some (.deferred (some [])) := (hbw1.block _ (by omega)).trans hd
      have hsw1 := hbw1.size
      have hbr := run_beginRound (P := P) hlw1 (by rw [hrec])
      refine ⟨_, hbr, ?_⟩
      have hrb : ({ rec .ready none with state := .busy } : Loop) = rec .busy none := by rw [hrec]
      rw [hrb]
      have hl2 : (w1.putObj (w.heap.size + 1) (.loop (rec .busy none))).heap[w.heap.size + 1]? = some (.loop (rec .busy none)) := World.putObj_heap_same (by omega)
      have hd2 : (w1.putObj (w.heap.size + 1) (.loop (rec .busy none))).heap[w.heap.size]? = some (.deferred (some [])) := (World.putObj_heap_other (by omega)).trans hdw1
      have hj2 : J r (w1.putObj (w.heap.size + 1) (.loop (rec .busy none))) := hJl _ _ _ _ (by omega) (hJb _ _ _ hj hbw1) (.inl ⟨_, hlw1⟩) (putObj_grown2 _ _ _)
      refine wpIn_mono (hbody _ r args W w1 _ a1 hr hj hv ha hj2 (.inl ⟨_, hlw1⟩) (by omega) (putObj_grown2 _ _ _)) ?_
      rintro e a3 W3 hp
      cases e with
      | normal =>
        obtain ⟨hc, hk3⟩ := hp
        have hl3 : W3.heap[w.heap.size + 1]? = some (.loop (rec .busy none)) := (hk3.2 _ (by omega) (.inl ⟨_, hl2⟩)).trans hl2
        have hd3 : W3.heap[w.heap.size]? = some (.deferred (some [])) := (hk3.2 _ (by omega) (.inr ⟨_, hd2⟩)).trans hd2
        have her := run_endRound (P := P) none hl3
        refine ⟨_, _, her, .inl ⟨rfl, ?_, ?_, ?_⟩⟩
        · exact hJl _ _ _ _ (by omega) hc (.inl ⟨_, hl3⟩) (putObj_grown2 _ _ _)
        · have hre : ({ rec .busy none with state := if (none : Option Code).isNone then .ready else .done, pending := none } : Loop) = rec .ready none := by rw [hrec]; rfl
          rw [hre]
          exact World.putObj_heap_same (Array.getElem?_eq_some_iff.1 hl3).1
        · exact (World.putObj_heap_other (by omega)).trans hd3
      | ret =>
        obtain ⟨hx, hk3⟩ := hp
        have hl3 : W3.heap[w.heap.size + 1]? = some (.loop (rec .busy none)) := (hk3.2 _ (by omega) (.inl ⟨_, hl2⟩)).trans hl2
        have hd3 : W3.heap[w.heap.size]? = some (.deferred (some [])) := (hk3.2 _ (by omega) (.inr ⟨_, hd2⟩)).trans hd2
        have her := run_endRound (P := P) (some .ret) hl3
        refine ⟨_, _, her, .inr ⟨rfl, W3, hx, hl3, hd3, ?_⟩⟩
        rw [hrec]; rfl
      | exit id => exact hp.elim
      | goto t => exact hp.elim
      | panic ch => exact hp.elim
      | outgrown => exact hp.elim
    · -- behind the iterator
      rintro e W2 ⟨⟨v, rfl⟩, (⟨hj, hl, hd⟩ | ⟨r, hr, W3, hx, hl3, hd3, rfl⟩)⟩
      · have hel := run_endLoop (P := P) hl (by rw [hrec]; simp)
        have hpe : (rec .ready none).pending = none := by rw [hrec]
        rw [hpe] at hel
        exact ⟨none, _, hel, hdone _ (hJl _ _ _ _ (by omega) hj (.inl ⟨_, hl⟩) (putObj_grown2 _ _ _)) ((World.putObj_heap_other (by omega)).trans hd)⟩
      · have hsl := (Array.getElem?_eq_some_iff.1 hl3).1
        have hl4 : (W3.putObj (w.heap.size + 1) (.loop (rec .done (some .ret)))).heap[w.heap.size + 1]? = some (.loop (rec .done (some .ret))) := World.putObj_heap_same hsl
        have hel := run_endLoop (P := P) hl4 (by rw [hrec]; simp)
        have hpe : (rec .done (some .ret)).pending = some .ret := by rw [hrec]
        rw [hpe] at hel
        refine ⟨some .ret, _, hel, hstop (w.heap.size + 1) r W3 _ hr hx (by omega) (.inl ⟨_, hl3⟩) ?_ ?_⟩
        · refine ⟨rfl, rfl, rfl, by simp, fun j hj hne => ?_⟩
          rw [World.putObj_heap_other (fun e => hne (by rw [e])), World.putObj_heap_other (fun e => hne (by rw [e]))]
        · rw [World.putObj_heap_other (by omega), World.putObj_heap_other (by omega)]
          exact hd3
end Go.Proofs.Ytjjefdkadgkhfaa

namespace Go.Proofs.Ytjjefdkadgkhfaa
open Go.RowKit

/-- Entry i of a list of ints. -/
def ati (l : List Int) (i : Nat) : Int := l.getD i 0
/-- Entry i of a list of bools. -/
def atb (l : List Bool) (i : Nat) : Bool := l.getD i false
theorem ati_get {l : List Int} {i : Nat} (h : i < l.length) : ati l i = l[i] := by simp [ati, List.getD, h]
theorem atb_get {l : List Bool} {i : Nat} (h : i < l.length) : atb l i = l[i] := by simp [atb, List.getD, h]
theorem ati_mem {l : List Int} {i : Nat} (h : i < l.length) : ati l i ∈ l := by rw [ati_get h]; exact List.getElem_mem h
def In64 (z : Int) : Prop := -9223372036854775808 ≤ z ∧ z ≤ 9223372036854775807
/-- The slice value v reads as the one-cell values cs. -/
def SlV (w : World) (v : Value) (cs : List Value) : Prop :=
  ∃ (a : Option Addr) (cap : Nat), v = .slice a cs.length cap ∧ cs.length ≤ cap ∧ cap ≤ 9223372036854775807 ∧ (a = none → cap = 0) ∧
    (0 < cs.length → ∃ b off, a = some ⟨b, off, none⟩ ∧ b < w.heap.size ∧ ∀ i c, cs[i]? = some c → w.cell? ⟨b, off + i, none⟩ = some c)
theorem SlV.below {B : Nat} {w w' : World} {v : Value} {cs : List Value} (h : SlV w v cs) (hb : Below B w w') (hB : w.heap.size ≤ B) : SlV w' v cs := by
  obtain ⟨a, cap, h1, h2, h3, h4, h5⟩ := h
  refine ⟨a, cap, h1, h2, h3, h4, fun hl => ?_⟩
  obtain ⟨b, off, e, hlt, hc⟩ := h5 hl
  exact ⟨b, off, e, Nat.lt_of_lt_of_le hlt hb.size, fun i c hi => (hb.cell (p := ⟨b, off + i, none⟩) (Nat.lt_of_lt_of_le hlt hB)).trans (hc i c hi)⟩
theorem SlV.after {w w' : World} {v : Value} {cs : List Value} (h : SlV w v cs) (hb : Below w.heap.size w w') : SlV w' v cs := h.below hb (Nat.le_refl _)
theorem SlV.alloc {w : World} {v : Value} {cs : List Value} (h : SlV w v cs) (o : Obj) : SlV (w.alloc o) v cs := h.after ((Below.refl _ w).alloc (Nat.le_refl _) o)
theorem SlV.nil (w : World) : SlV w (.slice none 0 0) [] := ⟨none, 0, rfl, by simp, by omega, fun _ => rfl, fun h => by simp at h⟩
theorem SlV.soft {w w' : World} {l : Nat} {v : Value} {cs : List Value} (h : SlV w v cs) (hs : Soft w l) (hg : w.grownBy w' (some l)) : SlV w' v cs := by
  obtain ⟨a, cap, h1, h2, h3, h4, h5⟩ := h
  refine ⟨a, cap, h1, h2, h3, h4, fun hl => ?_⟩
  obtain ⟨b, off, e, hlt, hc⟩ := h5 hl
  exact ⟨b, off, e, Nat.lt_of_lt_of_le hlt hg.size, fun i c hi => cell_soft (hc i c hi) hs hg⟩
/-- A part of what a slice reads. -/
theorem SlV.part {w : World} {b off len cap : Nat} {cs : List Value} (h : SlV w (.slice (some ⟨b, off, none⟩) len cap) cs) (n m : Nat) (hnm : n ≤ m) (hm : m ≤ len) : SlV w (.slice (some ⟨b, off + n, none⟩) (m - n) (cap - n)) ((cs.take m).drop n) := by
  obtain ⟨a, cap', h1, h2, h3, _, h5⟩ := h
  obtain ⟨rfl, rfl, rfl⟩ : some ⟨b, off, none⟩ = a ∧ len = cs.length ∧ cap = cap' := by simpa using h1
  have hl : ((cs.take m).drop n).length = m - n := by simp; omega
  refine ⟨_, _, by rw [hl], by rw [hl]; omega, by omega, (fun h => by cases h), fun hp => ?_⟩
  rw [hl] at hp
  obtain ⟨b', off', e, hlt, hc⟩ := h5 (by omega)
  injection e with e; injection e with e1 e2; subst e1; subst e2
  refine ⟨b, off + n, rfl, hlt, fun i c hi => ?_⟩
  rw [List.getElem?_drop, List.getElem?_take] at hi
  split at hi
  · rw [Nat.add_assoc]; exact hc _ _ hi
  · cases hi
/-- The slice value v reads as the ints l. -/
def SlI (w : World) (v : Value) (l : List Int) : Prop := (∀ z ∈ l, In64 z) ∧ SlV w v (l.map (Value.int .i64))
/-- The slice value v reads as the bools l. -/
def SlB (w : World) (v : Value) (l : List Bool) : Prop := SlV w v (l.map Value.bool)
section
variable {w w' : World} {v : Value} {l : List Int} {bs : List Bool}
theorem SlI.after (h : SlI w v l) (hb : Below w.heap.size w w') : SlI w' v l := ⟨h.1, h.2.after hb⟩
theorem SlB.after (h : SlB w v bs) (hb : Below w.heap.size w w') : SlB w' v bs := SlV.after h hb
theorem SlI.alloc (h : SlI w v l) (o : Obj) : SlI (w.alloc o) v l := ⟨h.1, h.2.alloc o⟩
theorem SlB.alloc (h : SlB w v bs) (o : Obj) : SlB (w.alloc o) v bs := SlV.alloc h o
theorem SlI.soft {n : Nat} (h : SlI w v l) (hs : Soft w n) (hg : w.grownBy w' (some n)) : SlI w' v l := ⟨h.1, h.2.soft hs hg⟩
theorem SlB.soft {n : Nat} (h : SlB w v bs) (hs : Soft w n) (hg : w.grownBy w' (some n)) : SlB w' v bs := SlV.soft h hs hg
theorem SlI.nil (w : World) : SlI w (.slice none 0 0) [] := ⟨by simp, SlV.nil w⟩
theorem SlB.nil (w : World) : SlB w (.slice none 0 0) [] := SlV.nil w
theorem SlI.shape (h : SlI w v l) : ∃ a cap, v = .slice a l.length cap ∧ l.length ≤ cap ∧ cap ≤ 9223372036854775807 ∧ (a = none → cap = 0) := by
  obtain ⟨_, a, cap, h1, h2, h3, h4, _⟩ := h
  rw [List.length_map] at h1 h2
  exact ⟨a, cap, h1, h2, h3, h4⟩
theorem SlB.shape (h : SlB w v bs) : ∃ a cap, v = .slice a bs.length cap ∧ bs.length ≤ cap ∧ cap ≤ 9223372036854775807 ∧ (a = none → cap = 0) := by
  obtain ⟨a, cap, h1, h2, h3, h4, _⟩ := h
  rw [List.length_map] at h1 h2
  exact ⟨a, cap, h1, h2, h3, h4⟩
theorem SlI.cells {a : Option Addr} {n cap : Nat} (h : SlI w (.slice a n cap) l) (hp : 0 < l.length) : ∃ b off, a = some ⟨b, off, none⟩ ∧ b < w.heap.size ∧ ∀ i, i < l.length → w.cell? ⟨b, off + i, none⟩ = some (.int .i64 (ati l i)) := by
  obtain ⟨_, a', cap', h1, _, _, _, h5⟩ := h
  obtain ⟨rfl, _, _⟩ : a = a' ∧ n = (l.map (Value.int .i64)).length ∧ cap = cap' := by injection h1 with e1 e2 e3; exact ⟨e1, e2, e3⟩
  obtain ⟨b, off, e, hlt, hc⟩ := h5 (by simpa using hp)
  exact ⟨b, off, e, hlt, fun i hi => hc i _ (by rw [List.getElem?_map, List.getElem?_eq_getElem hi, ati_get hi]; rfl)⟩
theorem SlB.cells {a : Option Addr} {n cap : Nat} (h : SlB w (.slice a n cap) bs) (hp : 0 < bs.length) : ∃ b off, a = some ⟨b, off, none⟩ ∧ b < w.heap.size ∧ ∀ i, i < bs.length → w.cell? ⟨b, off + i, none⟩ = some (.bool (atb bs i)) := by
  obtain ⟨a', cap', h1, _, _, _, h5⟩ := h
  obtain ⟨rfl, _, _⟩ : a = a' ∧ n = (bs.map Value.bool).length ∧ cap = cap' := by injection h1 with e1 e2 e3; exact ⟨e1, e2, e3⟩
  obtain ⟨b, off, e, hlt, hc⟩ := h5 (by simpa using hp)
  exact ⟨b, off, e, hlt, fun i hi => hc i _ (by rw [List.getElem?_map, List.getElem?_eq_getElem hi, atb_get hi]; rfl)⟩
theorem SlI.part {b off len cap : Nat} (h : SlI w (.slice (some ⟨b, off, none⟩) len cap) l) (n m : Nat) (hnm : n ≤ m) (hm : m ≤ len) : SlI w (.slice (some ⟨b, off + n, none⟩) (m - n) (cap - n)) ((l.take m).drop n) := by
  refine ⟨fun z hz => h.1 z (List.mem_of_mem_take (List.mem_of_mem_drop hz)), ?_⟩
  rw [List.map_drop, List.map_take]
  exact h.2.part n m hnm hm
theorem SlB.part {b off len cap : Nat} (h : SlB w (.slice (some ⟨b, off, none⟩) len cap) bs) (n m : Nat) (hnm : n ≤ m) (hm : m ≤ len) : SlB w (.slice (some ⟨b, off + n, none⟩) (m - n) (cap - n)) ((bs.take m).drop n) := by
  unfold SlB
  rw [List.map_drop, List.map_take]
  exact SlV.part h n m hnm hm
theorem SlB.front {a : Option Addr} {len cap : Nat} (h : SlB w (.slice a len cap) bs) (m : Nat) (hm : m ≤ len) : SlB w (.slice a m cap) (bs.take m) := by
  obtain ⟨a', cap', h1, h2, h3, h4, h5⟩ := h
  obtain ⟨rfl, rfl, rfl⟩ : a = a' ∧ len = (bs.map Value.bool).length ∧ cap = cap' := by injection h1 with e1 e2 e3; exact ⟨e1, e2, e3⟩
  rw [List.length_map] at hm h2 h5
  have hl : (bs.take m).length = m := by rw [List.length_take]; omega
  refine ⟨a, cap, by rw [List.length_map, hl], by rw [List.length_map, hl]; omega, h3, h4, fun hp => ?_⟩
  rw [List.length_map, hl] at hp
  obtain ⟨b, off, e, hlt, hc⟩ := h5 (by omega)
  refine ⟨b, off, e, hlt, fun i c hi => hc i c ?_⟩
  rw [List.getElem?_map, List.getElem?_take] at hi
  rw [List.getElem?_map]
  split at hi
  · exact hi
  · cases hi
end
/-- A rollout. -/
structure Ro where
  hosts : List Int
  waves : List Int
  rate : F
  bound : F
/-- The value v is the rollout R. -/
def IsR (w : World) (v : Value) (R : Ro) : Prop := ∃ vh vw va vb vc vd, v = .agg #[vh, vw, .bool R.rate.neg, va, vb, .bool R.bound.neg, vc, vd] ∧ SlI w vh R.hosts ∧ SlI w vw R.waves ∧ Sl w va R.rate.num ∧ Sl w vb R.rate.den ∧ Sl w vc R.bound.num ∧ Sl w vd R.bound.den
theorem IsR.after {w w' : World} {v : Value} {R : Ro} (h : IsR w v R) (hb : Below w.heap.size w w') : IsR w' v R := by
  obtain ⟨vh, vw, va, vb, vc, vd, e, h1, h2, h3, h4, h5, h6⟩ := h
  exact ⟨vh, vw, va, vb, vc, vd, e, h1.after hb, h2.after hb, h3.after hb, h4.after hb, h5.after hb, h6.after hb⟩
theorem Sl.soft {w w' : World} {v : Value} {l : List Nat} {n : Nat} (h : Sl w v l) (hs : Soft w n) (hg : w.grownBy w' (some n)) : Sl w' v l := h.grown hg hs.noTag
theorem IsR.soft {w w' : World} {v : Value} {R : Ro} {n : Nat} (h : IsR w v R) (hs : Soft w n) (hg : w.grownBy w' (some n)) : IsR w' v R := by
  obtain ⟨vh, vw, va, vb, vc, vd, e, h1, h2, h3, h4, h5, h6⟩ := h
  exact ⟨vh, vw, va, vb, vc, vd, e, h1.soft hs hg, h2.soft hs hg, h3.soft hs hg, h4.soft hs hg, h5.soft hs hg, h6.soft hs hg⟩
/-- The rollout's value, written out. -/
theorem IsR.open {w : World} {v : Value} {R : Ro} (h : IsR w v R) : ∃ (p0 p1 p2 p3 p4 p5 : Option Addr) (c0 c1 c2 c3 c4 c5 : Nat),
    v = .agg #[.slice p0 R.hosts.length c0, .slice p1 R.waves.length c1, .bool R.rate.neg, .slice p2 R.rate.num.length c2, .slice p3 R.rate.den.length c3, .bool R.bound.neg, .slice p4 R.bound.num.length c4, .slice p5 R.bound.den.length c5] ∧
    SlI w (.slice p0 R.hosts.length c0) R.hosts ∧ SlI w (.slice p1 R.waves.length c1) R.waves ∧ IsF w (.agg #[.bool R.rate.neg, .slice p2 R.rate.num.length c2, .slice p3 R.rate.den.length c3]) R.rate ∧
    IsF w (.agg #[.bool R.bound.neg, .slice p4 R.bound.num.length c4, .slice p5 R.bound.den.length c5]) R.bound := by
  obtain ⟨vh, vw, va, vb, vc, vd, rfl, h1, h2, h3, h4, h5, h6⟩ := h
  obtain ⟨p0, c0, rfl, _⟩ := h1.shape
  obtain ⟨p1, c1, rfl, _⟩ := h2.shape
  obtain ⟨p2, c2, rfl, _, _⟩ := h3.shape
  obtain ⟨p3, c3, rfl, _, _⟩ := h4.shape
  obtain ⟨p4, c4, rfl, _, _⟩ := h5.shape
  obtain ⟨p5, c5, rfl, _, _⟩ := h6.shape
  exact ⟨p0, p1, p2, p3, p4, p5, c0, c1, c2, c3, c4, c5, rfl, h1, h2, ⟨_, _, rfl, h3, h4⟩, ⟨_, _, rfl, h5, h6⟩⟩
/-- The eight cells of a rollout. -/
theorem Box.cells8 {w : World} {b : Nat} {x0 x1 x2 x3 x4 x5 x6 x7 : Value} {t : TypeId} (h : Box w b #[x0, x1, x2, x3, x4, x5, x6, x7] t) : w.cell? ⟨b, 0, none⟩ = some x0 ∧ w.cell? ⟨b, 1, none⟩ = some x1 ∧ w.cell? ⟨b, 2, none⟩ = some x2 ∧ w.cell? ⟨b, 3, none⟩ = some x3 ∧ w.cell? ⟨b, 4, none⟩ = some x4 ∧ w.cell? ⟨b, 5, none⟩ = some x5 ∧ w.cell? ⟨b, 6, none⟩ = some x6 ∧ w.cell? ⟨b, 7, none⟩ = some x7 :=
  ⟨h.cell 0, h.cell 1, h.cell 2, h.cell 3, h.cell 4, h.cell 5, h.cell 6, h.cell 7⟩
end Go.Proofs.Ytjjefdkadgkhfaa

namespace Go.Proofs.Ytjjefdkadgkhfaa
open Go.RowKit

/-- The slice v lies in memory from block B on. -/
def FreshFrom (B : Nat) (v : Value) : Prop := ∀ a n c, v = .slice (some a) n c → B ≤ a.block
theorem FreshFrom.nil (B : Nat) : FreshFrom B (.slice none 0 0) := fun a n c h => by cases h
theorem SlV.of_own {w : World} {base n : Nat} {t : TypeId} {v : Value} {cs : List Value} (h : w.ownsRow base t 1 v n cs) : SlV w v cs ∧ FreshFrom base v := by
  obtain ⟨h1, h2⟩ := h
  have hn : n = cs.length := by simpa using h1.symm
  subst hn
  rcases h2 with ⟨rfl, h0⟩ | ⟨g, cap, cur, rfl, hge, hg, h3, h4, h5, h6⟩
  · have : cs = [] := List.length_eq_zero_iff.1 h0
    subst this
    exact ⟨SlV.nil w, FreshFrom.nil _⟩
  · refine ⟨⟨some ⟨g, 0, none⟩, cap, rfl, h3, by simpa [maxLen] using h4, (fun h => by cases h), fun _ => ⟨g, 0, rfl, (Array.getElem?_eq_some_iff.1 hg).1, fun i c hi => ?_⟩⟩, fun a n c e => by injection e with e _ _; injection e with e; subst e; exact hge⟩
    have hl : i < cs.length := by
      rcases Nat.lt_or_ge i cs.length with h | h
      · exact h
      · rw [List.getElem?_eq_none h] at hi; cases hi
    rw [Nat.zero_add, cell_of_row w g i cur _ (0, 0) hg, ← Array.getElem?_toList]
    have h7 : (cur.toList.take (cs.length * 1))[i]? = cs[i]? := by rw [h6]
    rw [List.getElem?_take, if_pos (by omega)] at h7
    rw [h7, hi]
/-- A store elsewhere. -/
theorem SlV.setLow {w : World} {v : Value} {cs : List Value} {B : Nat} (h : SlV w v cs) (hf : FreshFrom B v) {p : Addr} (hp : p.block < B) (u : Value) : SlV (w.setCell p u) v cs := by
  obtain ⟨a, cap, h1, h2, h3, h4, h5⟩ := h
  refine ⟨a, cap, h1, h2, h3, h4, fun hl => ?_⟩
  obtain ⟨b, off, e, hlt, hc⟩ := h5 hl
  subst e
  have hB := hf _ _ _ h1
  simp only at hB
  refine ⟨b, off, rfl, by simpa [World.setCell] using hlt, fun i c hi => ?_⟩
  rw [← hc i c hi]
  exact World.cell?_setCell_other w p ⟨b, off + i, none⟩ u (fun e => by rw [e] at hp; simp only at hp; omega)
theorem SlI.setLow {w : World} {v : Value} {l : List Int} {B : Nat} (h : SlI w v l) (hf : FreshFrom B v) {p : Addr} (hp : p.block < B) (u : Value) : SlI (w.setCell p u) v l := ⟨h.1, h.2.setLow hf hp u⟩
theorem SlV.news {w : World} {ad : Addr} {n cap : Nat} {cs : List Value} (h : SlV w (.slice (some ad) n cap) cs) : ∀ j u, cs[j]? = some u → w.cell? (ad.add j) = some u := by
  obtain ⟨a', cap', h1, h2, h3, h4, h5⟩ := h
  intro j u hu
  have hj : j < cs.length := by
    rcases Nat.lt_or_ge j cs.length with hj | hj
    · exact hj
    · rw [List.getElem?_eq_none hj] at hu; cases hu
  obtain ⟨b, off, ha, hlt, hc⟩ := h5 (by omega)
  obtain ⟨rfl, _, _⟩ : some ad = a' ∧ n = cs.length ∧ cap = cap' := by injection h1 with e1 e2 e3; exact ⟨e1, e2, e3⟩
  obtain rfl : ad = ⟨b, off, none⟩ := by injection ha
  have hadd : (⟨b, off, none⟩ : Addr).add j = ⟨b, off + j, none⟩ := by unfold Addr.add; split <;> simp_all
  rw [hadd, hc j u hu]
theorem infoInt : (Try.prog.info? 3).map (fun i => (i.zero, i.size, i.bytes)) = some (some (.int .i64 0), 1, 8) := by kernel_rfl
theorem infoBool : (Try.prog.info? 4).map (fun i => (i.zero, i.size, i.bytes)) = some (some (.bool false), 1, 1) := by kernel_rfl

set_option maxHeartbeats 1000000 in
theorem clone_i (w : World) (va : Value) (a : List Int) (h : SlI w va a) (ha : a.length ≤ 1000000) :
    Calls Try.prog 39 #[va] w fun e w' => ∃ v, e = .returned v ∧ SlI w' v a ∧ FreshFrom w.heap.size v ∧ Below w.heap.size w w' := by
  have hs := h
  obtain ⟨p, cap, rfl, h2, h3, h5⟩ := h.shape
  rcases p with _ | ad
  · have hz := h5 rfl
    have hl : a = [] := List.length_eq_zero_iff.1 (by omega)
    subst hl; subst hz
    have hnil := fun W : World => Lib.run_eql_slice_nil (P := Try.prog) W 26 3 none 0 0 0 0 Try.underlying26
    clear hs h5 h
    go_enter Try.func39, Try.ntmps39
    go_wp2
    go_ret
    exact ⟨_, rfl, SlI.nil w, FreshFrom.nil _, Below.refl _ w⟩
  · have hnil := fun W : World => Lib.run_eql_slice_nil (P := Try.prog) W 26 3 (some ad) a.length cap 0 0 Try.underlying26
    have hown := World.ownsRow_made (e := 3) (size := 1) (base := w.heap.size) w #[] 0 (Nat.le_refl _) (by simp) (by simp)
    have hnews := (hs.alloc (.cells #[] 3)).2.news
    obtain ⟨i0, hi, hz0, hz1, hz2⟩ := info_parts infoInt
    have HOWN := Lib.hid hown
    have HNEWS := Lib.hid hnews
    have HIN : Hid (∀ z ∈ a, In64 z) := hs.1
    have hlm : maxLen = 9223372036854775807 := rfl
    have HLM := Lib.hid hlm
    clear hs h5 h hown hnews hlm
    go_enter Try.func39, Try.ntmps39
    go_wp2_with (at_builtin; refine wpList_append_own _ rfl _ _ 26 rfl w.heap.size 3 i0 (.int .i64 0) 1 8 Try.underlying26 hi hz0 hz1 hz2 rfl (by decide) _ _ _ rfl HOWN.out ad a.length cap (a.map (Value.int .i64)) rfl ?c1 HNEWS.out ?c3 ?c4 ?c5 ?c6 ?_)
    case c1 => simp
    case c3 => exact fun u hu => by obtain ⟨x, _, rfl⟩ := List.mem_map.1 hu; rfl
    case c4 => rw [HLM.out]; omega
    case c5 => omega
    case c6 => simp
    intro v' w1 hown' hgrow _
    have hs' := SlV.of_own hown'
    have HS : Hid (SlI w1 v' a ∧ FreshFrom w.heap.size v') := ⟨⟨HIN.out, hs'.1⟩, hs'.2⟩
    clear hs' hown'
    go_wp2
    go_ret
    exact ⟨_, rfl, HS.out.1, HS.out.2, ((Below.refl _ w).alloc (Nat.le_refl _) _).grown hgrow (by simp) (fun k hk => by simp [Value.ownBlock] at hk; omega)⟩

set_option maxHeartbeats 1000000 in
theorem clone_b (w : World) (va : Value) (a : List Bool) (h : SlB w va a) (ha : a.length ≤ 1000000) :
    Calls Try.prog 18 #[va] w fun e w' => ∃ v, e = .returned v ∧ SlB w' v a ∧ FreshFrom w.heap.size v ∧ Below w.heap.size w w' := by
  have hs := h
  obtain ⟨p, cap, rfl, h2, h3, h5⟩ := h.shape
  rcases p with _ | ad
  · have hz := h5 rfl
    have hl : a = [] := List.length_eq_zero_iff.1 (by omega)
    subst hl; subst hz
    have hnil := fun W : World => Lib.run_eql_slice_nil (P := Try.prog) W 44 4 none 0 0 0 0 Try.underlying44
    clear hs h5 h
    go_enter Try.func18, Try.ntmps18
    go_wp2
    go_ret
    exact ⟨_, rfl, SlB.nil w, FreshFrom.nil _, Below.refl _ w⟩
  · have hnil := fun W : World => Lib.run_eql_slice_nil (P := Try.prog) W 44 4 (some ad) a.length cap 0 0 Try.underlying44
    have hown := World.ownsRow_made (e := 4) (size := 1) (base := w.heap.size) w #[] 0 (Nat.le_refl _) (by simp) (by simp)
    have hnews := SlV.news (hs.alloc (.cells #[] 4))
    obtain ⟨i0, hi, hz0, hz1, hz2⟩ := info_parts infoBool
    have HOWN := Lib.hid hown
    have HNEWS := Lib.hid hnews
    have hlm : maxLen = 9223372036854775807 := rfl
    have HLM := Lib.hid hlm
    clear hs h5 h hown hnews hlm
    go_enter Try.func18, Try.ntmps18
    go_wp2_with (at_builtin; refine wpList_append_own _ rfl _ _ 44 rfl w.heap.size 4 i0 (.bool false) 1 1 Try.underlying44 hi hz0 hz1 hz2 rfl (by decide) _ _ _ rfl HOWN.out ad a.length cap (a.map Value.bool) rfl ?c1 HNEWS.out ?c3 ?c4 ?c5 ?c6 ?_)
    case c1 => simp
    case c3 => exact fun u hu => by obtain ⟨x, _, rfl⟩ := List.mem_map.1 hu; rfl
    case c4 => rw [HLM.out]; omega
    case c5 => omega
    case c6 => simp
    intro v' w1 hown' hgrow _
    have hs' := SlV.of_own hown'
    have HS : Hid (SlB w1 v' a ∧ FreshFrom w.heap.size v') := hs'
    clear hs' hown'
    go_wp2
    go_ret
    exact ⟨_, rfl, HS.out.1, HS.out.2, ((Below.refl _ w).alloc (Nat.le_refl _) _).grown hgrow (by simp) (fun k hk => by simp [Value.ownBlock] at hk; omega)⟩
end Go.Proofs.Ytjjefdkadgkhfaa

namespace Go.Proofs.Ytjjefdkadgkhfaa
open Go.RowKit

/-- The error of a rate. -/
noncomputable def rateE (x : F) : Int := open Classical in if fracE x = 0 then (if 1000 < val x.den then 2 else 0) else fracE x
theorem rateE_bad {x : F} (h : fracE x ≠ 0) : rateE x = fracE x := by unfold rateE; rw [if_neg h]
theorem rateE_good {x : F} (h : fracE x = 0) : rateE x = if 1000 < val x.den then 2 else 0 := by unfold rateE; rw [if_pos h]
theorem fracE_zero {x : F} (h : fracE x = 0) : ValidF x ∧ x.neg = false ∧ val x.num ≤ val x.den := by
  by_cases hv : ValidF x
  · rw [fracE_yes hv] at h
    by_cases hc : x.neg = true ∨ val x.den < val x.num
    · rw [if_pos hc] at h; omega
    · refine ⟨hv, ?_, ?_⟩
      · cases hx : x.neg
        · rfl
        · exact absurd (.inl hx) hc
      · rcases Nat.lt_or_ge (val x.den) (val x.num) with h1 | h1
        · exact absurd (.inr h1) hc
        · exact h1
  · rw [fracE_no hv] at h; omega
theorem fracE_cases (x : F) : fracE x = 0 ∨ fracE x = 1 ∨ fracE x = 2 := by
  by_cases hv : ValidF x
  · rw [fracE_yes hv]; split
    · exact .inr (.inr rfl)
    · exact .inl rfl
  · rw [fracE_no hv]; exact .inr (.inl rfl)

set_option maxRecDepth 100000 in
set_option maxHeartbeats 1000000 in
theorem rate_c (w : World) (v : Value) (x : F) (h : IsF w v x) : Calls Try.prog 68 #[v] w (RetE w (rateE x)) := by
  have HX := h
  obtain ⟨va, vb, rfl, h1, h2⟩ := h
  obtain ⟨W0, hW, bx, hsz, hb0⟩ := start1 w #[.bool x.neg, va, vb] 30
  obtain ⟨c0, c1, c2⟩ := bx.cells3
  obtain ⟨p, cp, rfl, _, _⟩ := h1.shape
  have H1 := Lib.hid (HX.after hb0)
  have H2 := Lib.hid (h2.after hb0)
  have HB0 := Lib.hid hb0
  have BX := Lib.hid bx
  clear HX bx hb0 h1
  by_cases hf : fracE x = 0
  · have hv := (fracE_zero hf).1
    have hpos := hv.2.2.pos
    have hcan := hv.2.1
    have hs := Lib.hid (rateE_good hf)
    have hlp : 0 < x.den.length := by
      unfold Canon at hcan
      rw [hcan]
      exact limbs_len_pos hpos
    obtain ⟨h0, a, cap, rfl, k2, k3, k5, k6⟩ := h2
    obtain ⟨b, off, rfl, hbl, hc⟩ := k6 hlp
    have hc0 := hc 0 hlp
    rw [Nat.add_zero] at hc0
    have hd0 := keep_cell HB0.out hc0
    have hlim : Hid (x.den.length = 1 → lim x.den 0 = val x.den) := by
      intro hl
      obtain ⟨d, hd⟩ := List.length_eq_one_iff.1 hl
      rw [hd]; simp [lim, val]
    have hbig : Hid (1 < x.den.length → 1000 < val x.den) := by
      intro hl
      unfold Canon at hcan
      rcases Nat.lt_or_ge 1000 (val x.den) with h | h
      · exact h
      · have := limbs_len_lt (n := val x.den) (k := 1) (by omega)
        rw [← hcan] at this
        omega
    have HF := Lib.hid hf
    clear hf hv hpos hcan k5 k6 hc hc0
    by_cases hl : 1 < x.den.length
    · have hs2 : Hid (rateE x = 2) := by show _ = _; rw [hs.out, if_pos (hbig.out hl)]
      go_enter Try.func68, Try.ntmps68
      go_upto_region 1 with fail
      rw [← hW]
      clear hW
      go_wp2_with fail
      refine (fraction_c _ _ _ H1.out).mono ?_
      rw [HF.out]
      rintro e w1 ⟨rfl, hb1⟩
      obtain ⟨c0', c1', c2'⟩ := (BX.out.after hb1).cells3
      have e0 := keep_cell hb1 hd0
      have KW := Lib.hid (HB0.out.trans (hb1.mono HB0.out.size))
      clear hb1 c0 c1 c2 hd0 H1
      go_wp2_with fail
      go_ret
      exact ⟨ret_int (by rw [hs2.out]), KW.out⟩
    · have hl1 : x.den.length = 1 := by omega
      have hlv := hlim.out hl1
      have HL := Lib.hid hl1
      obtain ⟨d, hd⟩ : ∃ d, lim x.den 0 = d := ⟨_, rfl⟩
      rw [hd] at hlv hd0
      have hdb : d < 4294967296 := by rw [← hd]; exact h0.getD 0
      clear hl1 hd
      by_cases hd1 : 1000 < d
      · have hs2 : Hid (rateE x = 2) := by show _ = _; rw [hs.out, if_pos (by omega)]
        clear hlv
        go_enter Try.func68, Try.ntmps68
        go_upto_region 1 with fail
        rw [← hW]
        clear hW
        go_wp2_with fail
        refine (fraction_c _ _ _ H1.out).mono ?_
        rw [HF.out]
        rintro e w1 ⟨rfl, hb1⟩
        obtain ⟨c0', c1', c2'⟩ := (BX.out.after hb1).cells3
        have e0 := keep_cell hb1 hd0
        have KW := Lib.hid (HB0.out.trans (hb1.mono HB0.out.size))
        clear hb1 c0 c1 c2 hd0 H1
        go_wp2_with fail
        go_ret
        exact ⟨ret_int (by rw [hs2.out]), KW.out⟩
      · have hs2 : Hid (rateE x = 0) := by show _ = _; rw [hs.out, if_neg (by omega)]
        clear hlv
        go_enter Try.func68, Try.ntmps68
        go_upto_region 1 with fail
        rw [← hW]
        clear hW
        go_wp2_with fail
        refine (fraction_c _ _ _ H1.out).mono ?_
        rw [HF.out]
        rintro e w1 ⟨rfl, hb1⟩
        obtain ⟨c0', c1', c2'⟩ := (BX.out.after hb1).cells3
        have e0 := keep_cell hb1 hd0
        have KW := Lib.hid (HB0.out.trans (hb1.mono HB0.out.size))
        clear hb1 c0 c1 c2 hd0 H1
        go_wp2_with fail
        go_ret
        exact ⟨ret_int (by rw [hs2.out]), KW.out⟩
  · have hs := Lib.hid (rateE_bad hf)
    have hcs := fracE_cases x
    obtain ⟨r, hr⟩ : ∃ r, fracE x = r := ⟨_, rfl⟩
    rw [hr] at hf hcs hs
    have HR := Lib.hid hr
    have hrp : 0 < r := by omega
    have hrq : r ≤ 2 := by omega
    clear hr hcs hf
    go_enter Try.func68, Try.ntmps68
    go_upto_region 1 with fail
    rw [← hW]
    clear hW
    go_wp2_with fail
    refine (fraction_c _ _ _ H1.out).mono ?_
    rw [HR.out]
    rintro e w1 ⟨rfl, hb1⟩
    have KW := Lib.hid (HB0.out.trans (hb1.mono HB0.out.size))
    clear hb1 c0 c1 c2 H1
    go_wp2_with fail
    go_ret
    exact ⟨ret_int (by rw [hs.out]), KW.out⟩

/-- The error of a rate and numbers. -/
noncomputable def checkE (x : F) (good : Bool) : Int := if rateE x = 0 then (if good = true then 0 else 2) else rateE x
theorem rateE_cases (x : F) : rateE x = 0 ∨ rateE x = 1 ∨ rateE x = 2 := by
  by_cases h : fracE x = 0
  · rw [rateE_good h]; split
    · exact .inr (.inr rfl)
    · exact .inl rfl
  · rw [rateE_bad h]; exact fracE_cases x

set_option maxRecDepth 100000 in
set_option maxHeartbeats 1000000 in
theorem checked_c (w : World) (v : Value) (x : F) (good : Bool) (h : IsF w v x) : Calls Try.prog 44 #[v, .bool good] w (RetE w (checkE x good)) := by
  have HX := h
  obtain ⟨va, vb, rfl, h1, h2⟩ := h
  obtain ⟨W0, hW, bx, hsz, hb0⟩ := start1 w #[.bool x.neg, va, vb] 30
  obtain ⟨c0, c1, c2⟩ := bx.cells3
  have H1 := Lib.hid (HX.after hb0)
  have HB0 := Lib.hid hb0
  clear HX bx hb0 h1 h2
  by_cases hf : rateE x = 0
  · have HF := Lib.hid hf
    clear hf
    cases good with
    | true =>
      have hs : Hid (checkE x true = 0) := by show _ = _; unfold checkE; rw [if_pos HF.out]; rfl
      go_enter Try.func44, Try.ntmps44
      go_upto_region 1 with fail
      rw [← hW]
      clear hW
      go_wp2_with fail
      refine (rate_c _ _ _ H1.out).mono ?_
      rw [HF.out]
      rintro e w1 ⟨rfl, hb1⟩
      have KW := Lib.hid (HB0.out.trans (hb1.mono HB0.out.size))
      clear hb1 c0 c1 c2 H1
      go_wp2_with fail
      go_ret
      exact ⟨ret_int (by rw [hs.out]), KW.out⟩
    | false =>
      have hs : Hid (checkE x false = 2) := by show _ = _; unfold checkE; rw [if_pos HF.out]; rfl
      go_enter Try.func44, Try.ntmps44
      go_upto_region 1 with fail
      rw [← hW]
      clear hW
      go_wp2_with fail
      refine (rate_c _ _ _ H1.out).mono ?_
      rw [HF.out]
      rintro e w1 ⟨rfl, hb1⟩
      have KW := Lib.hid (HB0.out.trans (hb1.mono HB0.out.size))
      clear hb1 c0 c1 c2 H1
      go_wp2_with fail
      go_ret
      exact ⟨ret_int (by rw [hs.out]), KW.out⟩
  · have hs : Hid (checkE x good = rateE x) := by show _ = _; unfold checkE; rw [if_neg hf]
    have hcs := rateE_cases x
    obtain ⟨r, hr⟩ : ∃ r, rateE x = r := ⟨_, rfl⟩
    rw [hr] at hf hcs hs
    have HR := Lib.hid hr
    have hrp : 0 < r := by omega
    have hrq : r ≤ 2 := by omega
    clear hr hcs hf
    go_enter Try.func44, Try.ntmps44
    go_upto_region 1 with fail
    rw [← hW]
    clear hW
    go_wp2_with fail
    refine (rate_c _ _ _ H1.out).mono ?_
    rw [HR.out]
    rintro e w1 ⟨rfl, hb1⟩
    have KW := Lib.hid (HB0.out.trans (hb1.mono HB0.out.size))
    clear hb1 c0 c1 c2 H1
    go_wp2_with fail
    go_ret
    exact ⟨ret_int (by rw [hs.out]), KW.out⟩
end Go.Proofs.Ytjjefdkadgkhfaa
