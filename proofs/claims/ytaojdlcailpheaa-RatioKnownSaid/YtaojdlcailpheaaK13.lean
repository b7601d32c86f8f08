/- Walks of package tails: Exactly.
   A range over a function that counts down, whose rounds that go on leave memory as it was: one law for the caller, with facts on memory handed to the body.
   Walks of package tails: the tails from n down to 0, yielded one by one.
   Walks of package tails: down, at.
   Walks of package tails: Tail.
   Walks of package tails: is a part above a bound? -/
import Derived.Test.YtaojdlcailpheaaK12
import Derived.RangeFuncNested
import Derived.RangeFuncBound
import Derived.RangeFuncCalls
import Derived.RangeFuncLeaves
import Derived.Shelf.Abstract
import Derived.Test.YtaojdlcailpheaaK08
import Derived.TacticsIn
import Derived.BigFrameIn
import Derived.OwnWalkIn
import Derived.TacticsInMore
import Derived.LoopNIn
import Derived.LoopIn
set_option linter.unusedVariables false
namespace Go.Proofs.Ytaojdlcailpheaa
open Go.RowKit

theorem rate_fr {x : F} (h : rateE x = 0) : ∃ a b, x = fr false a b ∧ a ≤ b ∧ 0 < b ∧ b ≤ 1000 ∧ val x.num = a ∧ val x.den = b := by
  have hf : fracE x = 0 := by
    rcases fracE_cases x with h0 | h0
    · exact h0
    · have hne : fracE x ≠ 0 := by omega
      rw [rateE_bad hne] at h
      exact h
  obtain ⟨hv, hn, hle⟩ := fracE_zero hf
  rw [rateE_good hf] at h
  refine ⟨val x.num, val x.den, ?_, hle, hv.2.2.pos, ?_, rfl, rfl⟩
  · have := hv.eq; rwa [hn] at this
  · rcases Nat.lt_or_ge 1000 (val x.den) with h1 | h1
    · rw [if_pos h1] at h; omega
    · exact h1
theorem checkE_zero {x : F} {g : Bool} (h : checkE x g = 0) : rateE x = 0 ∧ g = true := by
  unfold checkE at h
  by_cases hr : rateE x = 0
  · rw [if_pos hr] at h
    cases g with
    | true => exact ⟨hr, rfl⟩
    | false => simp at h
  · rw [if_neg hr] at h; exact absurd h hr
theorem checkE_cases (x : F) (g : Bool) : checkE x g = 0 ∨ checkE x g = 1 ∨ checkE x g = 2 := by
  unfold checkE
  by_cases hr : rateE x = 0
  · rw [if_pos hr]; cases g
    · exact .inr (.inr rfl)
    · exact .inl rfl
  · rw [if_neg hr]; exact rateE_cases x

/-- What Exactly returns. -/
noncomputable def exactlyF (n k : Int) (p : F) : F × Int :=
  if checkE p (trialsB n k n) = 0 then made false (ex (val p.num) (val p.den - val p.num) n.toNat k.toNat) (val p.den ^ n.toNat) else (F0, checkE p (trialsB n k n))

theorem keep_far3 {W : World} {R X : Nat} {u0 u1 u2 : Value} (h : R ≠ X) (j : Nat) : (((W.setCell ⟨R, 0, none⟩ u0).setCell ⟨R, 1, none⟩ u1).setCell ⟨R, 2, none⟩ u2).cell? ⟨X, j, none⟩ = W.cell? ⟨X, j, none⟩ := by
  rw [World.cell?_setCell_other _ _ _ _ (fun e => h (by injection e)), World.cell?_setCell_other _ _ _ _ (fun e => h (by injection e)), World.cell?_setCell_other _ _ _ _ (fun e => h (by injection e))]

theorem keep4s {W : World} {R X : Nat} {u0 u1 u2 a b c d : Value} (h : R ≠ X) (hs : W.cell? ⟨X, 1, none⟩ = some a ∧ W.cell? ⟨X, 2, none⟩ = some b ∧ W.cell? ⟨X, 3, none⟩ = some c ∧ W.cell? ⟨X, 4, none⟩ = some d) :
    (((W.setCell ⟨R, 0, none⟩ u0).setCell ⟨R, 1, none⟩ u1).setCell ⟨R, 2, none⟩ u2).cell? ⟨X, 1, none⟩ = some a ∧ (((W.setCell ⟨R, 0, none⟩ u0).setCell ⟨R, 1, none⟩ u1).setCell ⟨R, 2, none⟩ u2).cell? ⟨X, 2, none⟩ = some b ∧
    (((W.setCell ⟨R, 0, none⟩ u0).setCell ⟨R, 1, none⟩ u1).setCell ⟨R, 2, none⟩ u2).cell? ⟨X, 3, none⟩ = some c ∧ (((W.setCell ⟨R, 0, none⟩ u0).setCell ⟨R, 1, none⟩ u1).setCell ⟨R, 2, none⟩ u2).cell? ⟨X, 4, none⟩ = some d :=
  ⟨(keep_far3 h 1).trans hs.1, (keep_far3 h 2).trans hs.2.1, (keep_far3 h 3).trans hs.2.2.1, (keep_far3 h 4).trans hs.2.2.2⟩

end Go.Proofs.Ytaojdlcailpheaa

namespace Go.Proofs.Ytaojdlcailpheaa
open Go.RowKit

theorem putObj_grown (W : World) (l : Nat) (o : Obj) : W.grownBy (W.putObj l o) (some l) := grownBy_putObj' W l o
/-- How the body of a round may be left. -/
def quietPost (B : Nat) (C : Prop) (X : World → Prop) (w2 : World) : Exit → Act → World → Prop
  | .normal, _, W3 => C ∧ Below w2.heap.size w2 W3
  | .ret, _, W3 => X W3 ∧ w2.heap.size ≤ W3.heap.size ∧ ∀ b, B ≤ b → b < w2.heap.size → W3.heap[b]? = w2.heap[b]?
  | _, _, _ => False

theorem wpIn_range_quiet {P : Program} {F : Fence} {n : Nat} {g : Operand} {ps : Array Tmp} {assign body : Code} {Q : Exit → Act → World → Prop} {a : Act} {w : World}
    (hro : F.round = none) (h1 : 1 ≤ n) {gf : Nat} {lb : Array Value} (hg : a.eval g = .func (.func gf) #[] lb) (hFg : F.fn gf) (eg : ∀ args w, (callFunc gf args).run P w = .ok (.enter gf args) w) (hps : ps.size = 2)
    (N : Nat) (V : Nat → Value → World → Prop) (C : Nat → Prop) (X : Nat → World → Prop)
    (hiter : ∀ (l : Nat) (W1 : World) (Y : Nat → World → Prop), Below w.heap.size w W1 →
      (∀ (k : Nat) (v : Value) (W : World), k ≤ N → (∀ j, k < j → j ≤ N → C j) → Below W1.heap.size W1 W → V k v W →
        YieldAt F (n - 1 - 1) P l #[.int .i64 (k : Int), v] W fun e W' => (e = .returned (.bool true) ∧ C k ∧ Below W.heap.size W W') ∨ (e = .returned (.bool false) ∧ Y k W')) →
      CallsIn F (n - 1) P gf (#[.func (.yield l) #[] #[]] ++ lb) W1 fun e W' => (∃ v, e = .returned v) ∧ ((Below W1.heap.size W1 W' ∧ ∀ j, j ≤ N → C j) ∨ ∃ k, k ≤ N ∧ (∀ j, k < j → j ≤ N → C j) ∧ Y k W'))
    (A : Nat → Value → Act → World → World → Prop) (hA : ∀ k v a1 W w1, A k v a1 W w1 → Below W.heap.size W w1)
    (hassign : ∀ (l k : Nat) (v : Value) (W : World) (K : Act → World → Prop), k ≤ N → V k v W → (∀ a1 w1, A k v a1 W w1 → K a1 w1) →
      assign.wpIn (F.inRound l) (n - 1 - 1) P (Exit.then K (fun _ _ _ => False)) { tmps := (ps.zip #[.int .i64 (k : Int), v]).foldl (fun t (p, v) => t.setIfInBounds p v) a.tmps, defers := [] } W)
    (hbody : ∀ (l k : Nat) (v : Value) (W w1 w2 : World) (a1 : Act), k ≤ N → (∀ j, k < j → j ≤ N → C j) → Below w.heap.size w W → V k v W → A k v a1 W w1 → w.heap.size < l → l < W.heap.size → w1.grownBy w2 (some l) → ¬ Tag32 w1 l →
      body.wpIn (F.inRound l) (n - 1 - 1) P (quietPost w.heap.size (C k) (X k) w2) a1 w2)
    (hdone : ∀ W, Below w.heap.size w W → (∀ j, j ≤ N → C j) → W.heap[w.heap.size]? = some (.deferred (some [])) → Q .normal { a with defers := { target := .collected w.heap.size, args := #[] } :: a.defers } W)
    (hstop : ∀ (l k : Nat) (W3 W : World), k ≤ N → (∀ j, k < j → j ≤ N → C j) → X k W3 → w.heap.size < l → W3.grownBy W (some l) → ¬ Tag32 W3 l → W.heap[w.heap.size]? = some (.deferred (some [])) →
      Code.ret.wpIn F n P Q { a with defers := { target := .collected w.heap.size, args := #[] } :: a.defers } W) :
    (Code.rangeFunc g ps assign body).wpIn F n P Q a w := by
  refine wpIn_rangeFunc ?_
  intro fn hfn
  rw [hro]
  obtain ⟨rec, hrec⟩ : ∃ rec : LoopState → Option Code → Loop, rec = fun st pe => { state := st, pending := pe, fn, tmps := a.tmps, params := ps, assign, body, defers := w.heap.size } := ⟨_, rfl⟩
  obtain ⟨W1, hW1⟩ : ∃ W1, W1 = (w.alloc (.deferred (some []))).alloc (.loop (rec .ready none)) := ⟨_, rfl⟩
  have hw1 : Below w.heap.size w W1 := hW1 ▸ ((Below.refl _ w).alloc (Nat.le_refl _) _).alloc (by simp) _
  have hl1 : W1.heap[w.heap.size + 1]? = some (.loop (rec .ready none)) := by
    rw [hW1]; have := heap_alloc_new (w.alloc (.deferred (some []))) (.loop (rec .ready none)); rwa [World.size_alloc] at this
  have hd1 : W1.heap[w.heap.size]? = some (.deferred (some [])) := by
    rw [hW1]; exact (Below.heap_alloc _ _ _ (by simp)).trans (heap_alloc_new w _)
  have hs1 : W1.heap.size = w.heap.size + 2 := by rw [hW1]; simp
  have noTag : ∀ (W : World) (r : Loop), W.heap[w.heap.size + 1]? = some (.loop r) → ¬ Tag32 W (w.heap.size + 1) := by
    rintro W r h ⟨cs, fz, h'⟩
    rw [h] at h'
    cases h'
  refine ⟨w.heap.size + 1, [{ target := .collected w.heap.size, args := #[] }], W1, { target := .fn (.func gf) lb, args := #[.func (.yield (w.heap.size + 1)) #[] #[]] }, W1, gf, #[.func (.yield (w.heap.size + 1)) #[] #[]] ++ lb, W1, ?_, ?_, ?_, ?_, fun _ => h1, ?_⟩
  · rw [hW1, hrec]; exact run_enterLoop_outer _ _ _ _ _
  · simp only [resolve, hg]
    simp [go_sem]
  · intro f' hf'; simp [Target.leads] at hf'; subst hf'; exact hFg
  · simp [invoke, go_sem, eg]
  · refine (hiter (w.heap.size + 1) W1 (fun k W' => ∃ W3, X k W3 ∧ W3.heap[w.heap.size + 1]? = some (.loop (rec .busy none)) ∧ W3.heap[w.heap.size]? = some (.deferred (some [])) ∧ W' = W3.putObj (w.heap.size + 1) (.loop (rec .done (some .ret)))) hw1 ?_).mono ?_
    · -- a round
      intro k v W hk hC hb hv
      have hl : W.heap[w.heap.size + 1]? = some (.loop (rec .ready none)) := (hb.block _ (by omega)).trans hl1
      have hd : W.heap[w.heap.size]? = some (.deferred (some [])) := (hb.block _ (by omega)).trans hd1
      have hsz := hb.size
      have hy := run_yield (P := P) (args := #[.int .i64 (k : Int), v]) hl (by rw [hrec]; exact hps.symm)
      rw [hrec] at hy
      refine ⟨fn, _, assign, body, hy, roundIn_of_wpIn hfn (hassign _ k v W _ hk hv ?_)⟩
      intro a1 w1 ha
      have hbw1 := hA _ _ _ _ _ ha
      have hlw1 : w1.heap[w.heap.size + 1]? = some (.loop (rec .ready none)) := (hbw1.block _ (by omega)).trans hl
      have hdw1 : w1.heap[w.heap.size]? = some (.deferred (some [])) := (hbw1.block _ (by omega)).trans hd
      have hsw1 := hbw1.size
      have hbr := run_beginRound (P := P) hlw1 (by rw [hrec])
      refine ⟨_, hbr, ?_⟩
      have hrb : ({ rec .ready none with state := .busy } : Loop) = rec .busy none := by rw [hrec]
      rw [hrb]
      have hl2 : (w1.putObj (w.heap.size + 1) (.loop (rec .busy none))).heap[w.heap.size + 1]? = some (.loop (rec .busy none)) := World.putObj_heap_same (by omega)
      have hd2 : (w1.putObj (w.heap.size + 1) (.loop (rec .busy none))).heap[w.heap.size]? = some (.deferred (some [])) := (World.putObj_heap_other (by omega)).trans hdw1
      have hs2 : (w1.putObj (w.heap.size + 1) (.loop (rec .busy none))).heap.size = w1.heap.size := World.putObj_size
      refine wpIn_mono (hbody _ k v W w1 _ a1 hk hC (hw1.trans (hb.mono (by omega))) hv ha (by omega) (by omega) (putObj_grown _ _ _) (noTag _ _ hlw1)) ?_
      rintro e a3 W3 hp
      cases e with
      | normal =>
        obtain ⟨hc, hb3⟩ := hp
        have hl3 : W3.heap[w.heap.size + 1]? = some (.loop (rec .busy none)) := (hb3.block _ (by omega)).trans hl2
        have her := run_endRound (P := P) none hl3
        refine ⟨_, _, her, .inl ⟨rfl, hc, ?_⟩⟩
        have hre : ({ rec .busy none with state := if (none : Option Code).isNone then .ready else .done, pending := none } : Loop) = rec .ready none := by rw [hrec]; rfl
        rw [hre]
        have hs3 := hb3.size
        refine ⟨?_, ?_, ?_, ?_, ?_⟩
        · exact hb3.os.trans hbw1.os
        · exact hb3.tape.trans hbw1.tape
        · exact hb3.output.trans hbw1.output
        · rw [World.putObj_size]; omega
        · intro b hblt
          by_cases e : b = w.heap.size + 1
          · subst e
            rw [World.putObj_heap_same (by omega), hl]
          · rw [World.putObj_heap_other e, hb3.block b (by omega), World.putObj_heap_other e]
            exact hbw1.block b hblt
      | ret =>
        obtain ⟨hx, hs3, hkeep⟩ := hp
        have hl3 : W3.heap[w.heap.size + 1]? = some (.loop (rec .busy none)) := (hkeep _ (by omega) (by omega)).trans hl2
        have hd3 : W3.heap[w.heap.size]? = some (.deferred (some [])) := (hkeep _ (by omega) (by omega)).trans hd2
        have her := run_endRound (P := P) (some .ret) hl3
        refine ⟨_, _, her, .inr ⟨rfl, W3, hx, hl3, hd3, ?_⟩⟩
        rw [hrec]; rfl
      | exit id => exact hp.elim
      | goto t => exact hp.elim
      | panic ch => exact hp.elim
      | outgrown => exact hp.elim
    · -- behind the iterator
      rintro e W2 ⟨⟨v, rfl⟩, (⟨hb, hC⟩ | ⟨k, hk, hC, W3, hx, hl3, hd3, rfl⟩)⟩
      · have hl : W2.heap[w.heap.size + 1]? = some (.loop (rec .ready none)) := (hb.block _ (by omega)).trans hl1
        have hd : W2.heap[w.heap.size]? = some (.deferred (some [])) := (hb.block _ (by omega)).trans hd1
        have hel := run_endLoop (P := P) hl (by rw [hrec]; simp)
        have hpe : (rec .ready none).pending = none := by rw [hrec]
        rw [hpe] at hel
        refine ⟨none, _, hel, hdone _ ?_ hC ((World.putObj_heap_other (by omega)).trans hd)⟩
        exact (hw1.trans (hb.mono (by omega))).grown (putObj_grown _ _ _) (by have := hb.size; omega) (fun j e => by cases e; omega)
      · have hsl := (Array.getElem?_eq_some_iff.1 hl3).1
        have hl4 : (W3.putObj (w.heap.size + 1) (.loop (rec .done (some .ret)))).heap[w.heap.size + 1]? = some (.loop (rec .done (some .ret))) := World.putObj_heap_same hsl
        have hel := run_endLoop (P := P) hl4 (by rw [hrec]; simp)
        have hpe : (rec .done (some .ret)).pending = some .ret := by rw [hrec]
        rw [hpe] at hel
        refine ⟨some .ret, _, hel, hstop (w.heap.size + 1) k W3 _ hk hC hx (by omega) ?_ (noTag _ _ hl3) ?_⟩
        · have g1 := putObj_grown W3 (w.heap.size + 1) (.loop (rec .done (some .ret)))
          refine ⟨rfl, rfl, rfl, by simp, fun j hj hne => ?_⟩
          rw [World.putObj_heap_other (fun e => hne (by rw [e])), World.putObj_heap_other (fun e => hne (by rw [e]))]
        · rw [World.putObj_heap_other (by omega), World.putObj_heap_other (by omega)]
          exact hd3
end Go.Proofs.Ytaojdlcailpheaa

namespace Go.Proofs.Ytaojdlcailpheaa
open Go.RowKit

end Go.Proofs.Ytaojdlcailpheaa

namespace Go.Proofs.Ytaojdlcailpheaa
open Go.RowKit Go.Shelf
attribute [local go_sem] Oper.semAt_some

theorem VarF.grown {w w' : World} {b : Nat} {x : F} {row : Option Nat} (h : VarF w b x) (hg : w.grownBy w' row) (hr : ∀ g, row = some g → ¬ Tag32 w g) (hb : some b ≠ row) : VarF w' b x := by
  obtain ⟨va, vb, h1, h2, h3⟩ := h
  exact ⟨va, vb, h1.grown hg hb, h2.grown hg hr, h3.grown hg hr⟩
theorem VarF.of_set {w : World} {R : Nat} {b : Bool} {x : F} {va vb : Value} (hR : Box w R #[.bool false, .slice none 0 0, .slice none 0 0] 25) (h : IsF w (.agg #[.bool b, va, vb]) x) : VarF (((w.setCell ⟨R, 0, none⟩ (.bool b)).setCell ⟨R, 1, none⟩ va).setCell ⟨R, 2, none⟩ vb) R x := by
  obtain ⟨e, ha, hb⟩ := h.parts
  injection e with e
  subst e
  obtain ⟨_, h1, h2⟩ := (IsF.result (neg := x.neg) hR (fun _ h => by cases h) (fun _ h => by cases h) ha hb).parts
  exact ⟨va, vb, end_box hR, h1, h2⟩
theorem set3_below {B : Nat} {w w2 : World} {R : Nat} {y0 y1 y2 : Value} (h : Below B w w2) (hR : B ≤ R) : Below B w (((w2.setCell ⟨R, 0, none⟩ y0).setCell ⟨R, 1, none⟩ y1).setCell ⟨R, 2, none⟩ y2) := ((h.setCell hR _).setCell hR _).setCell hR _
theorem set3_block {w2 : World} {R b : Nat} {y0 y1 y2 : Value} (h : b ≠ R) : (((w2.setCell ⟨R, 0, none⟩ y0).setCell ⟨R, 1, none⟩ y1).setCell ⟨R, 2, none⟩ y2).heap[b]? = w2.heap[b]? :=
  (Below.heap_setCell _ ⟨R, 2, none⟩ _ b h).trans ((Below.heap_setCell _ ⟨R, 1, none⟩ _ b h).trans (Below.heap_setCell _ ⟨R, 0, none⟩ _ b h))
theorem set3_size {w2 : World} {R : Nat} {y0 y1 y2 : Value} : (((w2.setCell ⟨R, 0, none⟩ y0).setCell ⟨R, 1, none⟩ y1).setCell ⟨R, 2, none⟩ y2).heap.size = w2.heap.size := by simp [World.setCell]
theorem noTag_def {W : World} {D : Nat} {o : Obj} (h : W.heap[D]? = some o) (ho : o.isCells = false) : ∀ g, some D = some g → ¬ Tag32 W g := by
  rintro g e ⟨cs, fz, h'⟩
  injection e with e
  subst e
  rw [h] at h'
  injection h' with h'
  subst h'
  cases ho
end Go.Proofs.Ytaojdlcailpheaa

namespace Go.Proofs.Ytaojdlcailpheaa
open Go.RowKit

/-- What Tail returns. -/
noncomputable def tailF (n k : Int) (p : F) : F × Int :=
  if checkE p (trialsB n k (IntKind.i64.wrap (n + 1))) = 0 then made false (tl (val p.num) (val p.den - val p.num) n.toNat k.toNat) (val p.den ^ n.toNat) else (F0, checkE p (trialsB n k (IntKind.i64.wrap (n + 1))))

theorem keep5s {W : World} {R X : Nat} {u0 u1 u2 z a b c d : Value} (h : R ≠ X) (hs : W.cell? ⟨X, 0, none⟩ = some z ∧ W.cell? ⟨X, 1, none⟩ = some a ∧ W.cell? ⟨X, 2, none⟩ = some b ∧ W.cell? ⟨X, 3, none⟩ = some c ∧ W.cell? ⟨X, 4, none⟩ = some d) :
    (((W.setCell ⟨R, 0, none⟩ u0).setCell ⟨R, 1, none⟩ u1).setCell ⟨R, 2, none⟩ u2).cell? ⟨X, 0, none⟩ = some z ∧ (((W.setCell ⟨R, 0, none⟩ u0).setCell ⟨R, 1, none⟩ u1).setCell ⟨R, 2, none⟩ u2).cell? ⟨X, 1, none⟩ = some a ∧ (((W.setCell ⟨R, 0, none⟩ u0).setCell ⟨R, 1, none⟩ u1).setCell ⟨R, 2, none⟩ u2).cell? ⟨X, 2, none⟩ = some b ∧
    (((W.setCell ⟨R, 0, none⟩ u0).setCell ⟨R, 1, none⟩ u1).setCell ⟨R, 2, none⟩ u2).cell? ⟨X, 3, none⟩ = some c ∧ (((W.setCell ⟨R, 0, none⟩ u0).setCell ⟨R, 1, none⟩ u1).setCell ⟨R, 2, none⟩ u2).cell? ⟨X, 4, none⟩ = some d :=
  ⟨(keep_far3 h 0).trans hs.1, keep4s h hs.2⟩

end Go.Proofs.Ytaojdlcailpheaa

namespace Go.Proofs.Ytaojdlcailpheaa
open Go.RowKit

theorem made_big {m : Nat} (h : 32 < (limbs m).length) : made false m 1 = (F0, 3) := by
  unfold made
  rw [Nat.gcd_one_right, Nat.div_one, Nat.div_one, if_pos (.inl h)]
theorem mul_big {a b : Nat} (ha : (limbs a).length ≤ 32) (hb : (limbs b).length ≤ 32) (h : 32 < (limbs (a * b)).length) : opF mulN (Wh a) (Wh b) = (F0, 3) := by
  unfold Wh
  rw [opF_fr (ok_wh ha) (ok_wh hb)]
  exact made_big h
theorem cmp_wh {a b : Nat} (ha : (limbs a).length ≤ 32) (hb : (limbs b).length ≤ 32) : 0 < (cmpF (Wh a) (Wh b)).1 ↔ b < a := by
  rw [cmpF_yes ⟨valid_wh ha, valid_wh hb⟩]
  have e1 : val (Wh a).num = a := val_limbs a
  have e2 : val (Wh a).den = 1 := val_limbs 1
  have e3 : val (Wh b).num = b := val_limbs b
  have e4 : val (Wh b).den = 1 := val_limbs 1
  rw [e1, e2, e3, e4]
  show 0 < ordN false a 1 false b 1 ↔ b < a
  unfold ordN
  rw [if_pos rfl, if_neg (by simp), Nat.mul_one, Nat.mul_one]
  by_cases h1 : a < b
  · rw [if_pos h1]; constructor
    · intro h; omega
    · intro h; omega
  · rw [if_neg h1]
    by_cases h2 : a = b
    · rw [if_pos h2]; constructor
      · intro h; omega
      · intro h; omega
    · rw [if_neg h2]; constructor
      · intro _; omega
      · intro _; omega
/-- A quotient of a part and all, held against a bound. -/
theorem quot_cmp {t A x y : Nat} (ht : (limbs t).length ≤ 32) (hA : (limbs A).length ≤ 32) (hA0 : 0 < A) (hok : Ok false x y) :
    ∃ q, opF divN (Wh t) (Wh A) = (q, 0) ∧ ((0 < (cmpF q (fr false x y)).1) ↔ A * x < t * y) := by
  have hg : 0 < Nat.gcd t A := Nat.gcd_pos_of_pos_right _ hA0
  obtain ⟨t', ht'⟩ := Nat.gcd_dvd_left t A
  obtain ⟨A', hA'⟩ := Nat.gcd_dvd_right t A
  have e1 : t / Nat.gcd t A = t' := Nat.div_eq_of_eq_mul_right hg ht'
  have e2 : A / Nat.gcd t A = A' := Nat.div_eq_of_eq_mul_right hg hA'
  have l1 : (limbs t').length ≤ 32 := by rw [← e1]; exact Nat.le_trans (limbs_len_mono (Nat.div_le_self _ _)) ht
  have l2 : (limbs A').length ≤ 32 := by rw [← e2]; exact Nat.le_trans (limbs_len_mono (Nat.div_le_self _ _)) hA
  have hA'0 : 0 < A' := by
    rcases Nat.eq_zero_or_pos A' with h | h
    · rw [h, Nat.mul_zero] at hA'; omega
    · exact h
  have hgcd : Nat.gcd t' A' = 1 := by rw [← e1, ← e2]; exact Nat.gcd_div_gcd_div_gcd_of_pos_right hA0
  have okq : Ok false t' A' := ⟨l1, l2, hA'0, hgcd, fun _ => rfl⟩
  refine ⟨fr false t' A', ?_, ?_⟩
  · rw [div_made ht hA hA0]
    unfold made
    rw [e1, e2, if_neg (by omega)]
    rfl
  · rw [cmpF_yes ⟨validF_fr.2 okq, validF_fr.2 hok⟩]
    simp only [fr, val_limbs]
    have key : (A * x < t * y) ↔ (x * A' < t' * y) := by
      have m1 : A * x = Nat.gcd t A * (x * A') := by
        rw [show A * x = (Nat.gcd t A * A') * x from by rw [← hA']]
        simp only [Nat.mul_assoc, Nat.mul_comm]
      have m2 : t * y = Nat.gcd t A * (t' * y) := by
        rw [show t * y = (Nat.gcd t A * t') * y from by rw [← ht'], Nat.mul_assoc]
      rw [m1, m2]
      exact Nat.mul_lt_mul_left hg
    rw [key]
    unfold ordN
    rw [if_pos rfl, if_neg (by simp)]
    by_cases h1 : t' * y < x * A'
    · rw [if_pos h1]; constructor
      · intro h; omega
      · intro h; omega
    · rw [if_neg h1]
      by_cases h2 : t' * y = x * A'
      · rw [if_pos h2]; constructor
        · intro h; omega
        · intro h; omega
      · rw [if_neg h2]; constructor
        · intro _; omega
        · intro _; omega

end Go.Proofs.Ytaojdlcailpheaa
