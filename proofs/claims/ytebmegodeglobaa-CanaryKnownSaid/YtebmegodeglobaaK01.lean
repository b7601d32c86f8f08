/- Regions that draw their order, by an invariant: one step for each operation, whatever came before it.
   Regions that draw their order, by an invariant, more general: what a temporary holds may hang on what has come up, and the world may turn.
   Regions that draw their order, where only one last store may turn old memory: what an operation yields is a value, or what stays while memory grows. -/
import Derived.OrdersIn
import Derived.Laws.World
import Derived.Below
import Derived.Test.YtebmegodeglobaaProg
set_option linter.unusedVariables false
namespace Go.Proofs.Ytebmegodeglobaa
open Go.RowKit

/-- How many operations are still to come. -/
def toCome (listed : Array Bool) : Nat := listed.toList.count false
theorem ready_mem {md : Region.Mode} {ops : Array Oper} {listed : Array Bool} {i : Nat} (h : i ∈ Region.ready md ops listed) :
    i < ops.size ∧ listed.getD i true = false ∧ ∃ o, ops[i]? = some o ∧ ∀ e ∈ o.after, Region.binds md e = true → listed.getD e.on false = true := by
  unfold Region.ready at h
  rw [List.mem_filter, List.mem_range] at h
  obtain ⟨h1, h2⟩ := h
  rw [Bool.and_eq_true] at h2
  obtain ⟨h2, h3⟩ := h2
  have ho : ops[i]? = some ops[i] := Array.getElem?_eq_getElem h1
  refine ⟨h1, by simpa using h2, ops[i], ho, fun e he hb => ?_⟩
  rw [ho] at h3
  simp only [Option.map_some, Option.getD_some] at h3
  have := Array.all_eq_true'.1 h3 e he
  rw [hb] at this
  simpa using this
theorem toCome_pos {listed : Array Bool} {i : Nat} (h : listed.getD i true = false) : toCome (listed.setIfInBounds i true) + 1 = toCome listed := by
  have hi : i < listed.size := by
    rcases Nat.lt_or_ge i listed.size with h1 | h1
    · exact h1
    · rw [Array.getD_eq_getD_getElem?, Array.getElem?_eq_none h1] at h; cases h
  have hg : listed.toList[i]'(by simpa using hi) = false := by
    rw [Array.getD_eq_getD_getElem?, Array.getElem?_eq_getElem hi] at h
    simpa using h
  unfold toCome
  rw [Array.toList_setIfInBounds, List.count_set (by simpa using hi), hg]
  have hpos : 0 < listed.toList.count false := List.count_pos_iff.2 (hg ▸ List.getElem_mem _)
  change listed.toList.count false - 1 + 0 + 1 = _
  omega
section
variable {P : Program} {ops : Array Oper} {Q : Exit → Act → World → Prop} {md : Region.Mode} {J : Array Bool → Act → World → Prop}

theorem wpAny_inv (hstep : ∀ listed a w i, i ∈ Region.ready md ops listed → J listed a w → wpOp P ops Q i (J (listed.setIfInBounds i true)) a w)
    (hend : ∀ listed a w, Region.ready md ops listed = [] → J listed a w → Q .normal a w) :
    ∀ (fuel : Nat) (listed : Array Bool) (a : Act) (w : World), toCome listed ≤ fuel → J listed a w → wpAny P md ops Q fuel listed a w
  | 0, listed, a, w, hc, hj => by
    have hr : Region.ready md ops listed = [] := by
      rcases hh : Region.ready md ops listed with _ | ⟨i, l⟩
      · rfl
      · have hi : i ∈ Region.ready md ops listed := by rw [hh]; exact List.mem_cons_self ..
        have := toCome_pos (ready_mem hi).2.1
        omega
    exact ⟨hr, hend _ _ _ hr hj⟩
  | fuel + 1, listed, a, w, hc, hj => by
    refine ⟨fun hr => hend _ _ _ hr hj, fun i hi => wpOp_mono (fun a w h => ?_) (hstep listed a w i hi hj)⟩
    exact wpAny_inv hstep hend fuel _ a w (by have := toCome_pos (ready_mem hi).2.1; omega) h
theorem toCome_start (n : Nat) : toCome (Array.replicate n false) ≤ n := by unfold toCome; simp
/-- A region that draws its order, by an invariant. -/
theorem wp_region_inv {id : Nat} {a : Act} {w : World} (hm : P.follows .mixedOrders = true)
    (hstep : ∀ listed a w i, i ∈ Region.ready .any ops listed → J listed a w → wpOp P ops Q i (J (listed.setIfInBounds i true)) a w)
    (hend : ∀ listed a w, Region.ready .any ops listed = [] → J listed a w → Q .normal a w)
    (h0 : J (Array.replicate ops.size false) a w.drew) : (Code.region id ops true).wp P Q a w :=
  wp_region_any hm (wpAny_inv hstep hend ops.size _ _ _ (toCome_start _) h0)
end
section
variable {F : Fence} {n : Nat} {P : Program} {ops : Array Oper} {Q : Exit → Act → World → Prop} {md : Region.Mode} {J : Array Bool → Act → World → Prop}
theorem wpAnyIn_inv (hstep : ∀ listed a w i, i ∈ Region.ready md ops listed → J listed a w → wpOpIn F n P ops Q i (J (listed.setIfInBounds i true)) a w)
    (hend : ∀ listed a w, Region.ready md ops listed = [] → J listed a w → Q .normal a w) :
    ∀ (fuel : Nat) (listed : Array Bool) (a : Act) (w : World), toCome listed ≤ fuel → J listed a w → wpAnyIn F n P md ops Q fuel listed a w
  | 0, listed, a, w, hc, hj => by
    have hr : Region.ready md ops listed = [] := by
      rcases hh : Region.ready md ops listed with _ | ⟨i, l⟩
      · rfl
      · have hi : i ∈ Region.ready md ops listed := by rw [hh]; exact List.mem_cons_self ..
        have := toCome_pos (ready_mem hi).2.1
        omega
    exact ⟨hr, hend _ _ _ hr hj⟩
  | fuel + 1, listed, a, w, hc, hj => by
    refine ⟨fun hr => hend _ _ _ hr hj, fun i hi => wpOpIn_mono (fun a w h => ?_) (hstep listed a w i hi hj)⟩
    exact wpAnyIn_inv hstep hend fuel _ a w (by have := toCome_pos (ready_mem hi).2.1; omega) h
theorem wpIn_region_inv {id : Nat} {a : Act} {w : World} (hm : P.follows .mixedOrders = true)
    (hstep : ∀ listed a w i, i ∈ Region.ready .any ops listed → J listed a w → wpOpIn F n P ops Q i (J (listed.setIfInBounds i true)) a w)
    (hend : ∀ listed a w, Region.ready .any ops listed = [] → J listed a w → Q .normal a w)
    (h0 : J (Array.replicate ops.size false) a w.drew) : (Code.region id ops true).wpIn F n P Q a w :=
  wpIn_region_any hm (wpAnyIn_inv hstep hend ops.size _ _ _ (toCome_start _) h0)
end

/-- What each operation's temporary holds, once it has come up; the other temporaries are as before; memory that stood is as it was. -/
structure FJ (ops : Array Oper) (S : Nat → Value → World → Prop) (a0 : Act) (w0 : World) (listed : Array Bool) (a : Act) (w : World) : Prop where
  below : Below w0.heap.size w0 w
  defers : a.defers = a0.defers
  size : a.tmps.size = a0.tmps.size
  old : ∀ t : Nat, (∀ (k : Nat) (o : Oper), ops[k]? = some o → o.dst ≠ some t) → a.tmps.getD t undef = a0.tmps.getD t undef
  got : ∀ (k : Nat) (o : Oper) (t : Nat), ops[k]? = some o → o.dst = some t → listed.getD k false = true → S k (a.tmps.getD t undef) w
theorem FJ.start (ops : Array Oper) (S : Nat → Value → World → Prop) (a : Act) (w : World) : FJ ops S a w (Array.replicate ops.size false) a w.drew := by
  refine ⟨⟨rfl, rfl, rfl, Nat.le_refl _, fun _ _ => rfl⟩, rfl, rfl, fun _ _ => rfl, fun k o t ho ht hl => ?_⟩
  rw [Array.getD_eq_getD_getElem?, Array.getElem?_replicate] at hl
  split at hl <;> simp at hl
/-- No two operations write one temporary. -/
def DstOnce (ops : Array Oper) : Prop := ∀ (k k' : Nat) (o o' : Oper) (t : Nat), ops[k]? = some o → ops[k']? = some o' → o.dst = some t → o'.dst = some t → k = k'
theorem FJ.step {ops : Array Oper} {S : Nat → Value → World → Prop} {a0 : Act} {w0 : World} {listed : Array Bool} {a : Act} {w w' : World} {i t : Nat} {o : Oper} {v : Value}
    (h : FJ ops S a0 w0 listed a w) (hd : DstOnce ops) (hS : ∀ k v w w', S k v w → Below w.heap.size w w' → S k v w')
    (ho : ops[i]? = some o) (ht : o.dst = some t) (hlt : t < a0.tmps.size) (hb : Below w.heap.size w w') (hv : S i v w') : FJ ops S a0 w0 (listed.setIfInBounds i true) (a.put o.dst v) w' := by
  have hp : a.put o.dst v = { a with tmps := a.tmps.setIfInBounds t v } := by rw [ht]; rfl
  rw [hp]
  refine ⟨h.below.trans (hb.mono h.below.size), h.defers, by simp [h.size], fun t' hn => ?_, fun k o' t' hk ht' hl => ?_⟩
  · have hne : t ≠ t' := fun e => hn i o ho (e ▸ ht)
    show (a.tmps.setIfInBounds t v).getD t' undef = _
    rw [← h.old t' hn, Array.getD_eq_getD_getElem?, Array.getElem?_setIfInBounds_ne hne, ← Array.getD_eq_getD_getElem?]
  · show S k ((a.tmps.setIfInBounds t v).getD t' undef) w'
    by_cases hki : k = i
    · subst hki
      obtain rfl : o = o' := by rw [ho] at hk; exact Option.some.inj hk
      obtain rfl : t = t' := by rw [ht] at ht'; exact Option.some.inj ht'
      rw [Array.getD_eq_getD_getElem?, Array.getElem?_setIfInBounds_self_of_lt (by rw [h.size]; exact hlt)]
      exact hv
    · have hne : t ≠ t' := fun e => hki (hd k i o' o t' hk ho ht' (e ▸ ht))
      rw [Array.getD_eq_getD_getElem?, Array.getElem?_setIfInBounds_ne hne, ← Array.getD_eq_getD_getElem?]
      refine hS _ _ _ _ (h.got k o' t' hk ht' ?_) hb
      rw [Array.getD_eq_getD_getElem?, Array.getElem?_setIfInBounds_ne (fun e => hki e.symm), ← Array.getD_eq_getD_getElem?] at hl
      exact hl
/-- An operation that writes a temporary, whatever came before it. -/
theorem FJ.op {P : Program} {Q : Exit → Act → World → Prop} {ops : Array Oper} {S : Nat → Value → World → Prop} {a0 : Act} {w0 : World} {listed : Array Bool} {a : Act} {w : World} {i t : Nat} {o : Oper}
    (h : FJ ops S a0 w0 listed a w) (hd : DstOnce ops) (hS : ∀ k v w w', S k v w → Below w.heap.size w w' → S k v w')
    (ho : ops[i]? = some o) (ht : o.dst = some t) (hlt : t < a0.tmps.size)
    (hrun : ∀ K : Act → World → Prop, (∀ v w', Below w.heap.size w w' → S i v w' → K (a.put o.dst v) w') → if Region.wanted o (yielded ops a.tmps) = true then o.wp P a w K Q else K (a.put o.dst undef) w) :
    wpOp P ops Q i (FJ ops S a0 w0 (listed.setIfInBounds i true)) a w := by
  have hk := hrun (FJ ops S a0 w0 (listed.setIfInBounds i true)) (fun v w' hb hv => h.step hd hS ho ht hlt hb hv)
  unfold wpOp
  simp only [ho]
  by_cases hw : Region.wanted o (yielded ops a.tmps) = true
  · rw [if_pos hw] at hk
    rw [if_pos hw]
    exact .inl hk
  · rw [if_neg hw] at hk
    rw [if_neg hw]
    exact hk
/-- The same, within a round of a range over a function. -/
theorem FJ.opIn {F : Fence} {n : Nat} {P : Program} {Q : Exit → Act → World → Prop} {ops : Array Oper} {S : Nat → Value → World → Prop} {a0 : Act} {w0 : World} {listed : Array Bool} {a : Act} {w : World} {i t : Nat} {o : Oper}
    (h : FJ ops S a0 w0 listed a w) (hd : DstOnce ops) (hS : ∀ k v w w', S k v w → Below w.heap.size w w' → S k v w')
    (ho : ops[i]? = some o) (ht : o.dst = some t) (hlt : t < a0.tmps.size)
    (hrun : ∀ K : Act → World → Prop, (∀ v w', Below w.heap.size w w' → S i v w' → K (a.put o.dst v) w') → if Region.wanted o (yielded ops a.tmps) = true then o.wpIn F n P a w K Q else (∀ f, o.about P w a.eval = some f → F.fn f) ∧ K (a.put o.dst undef) w) :
    wpOpIn F n P ops Q i (FJ ops S a0 w0 (listed.setIfInBounds i true)) a w := by
  have hk := hrun (FJ ops S a0 w0 (listed.setIfInBounds i true)) (fun v w' hb hv => h.step hd hS ho ht hlt hb hv)
  unfold wpOpIn
  simp only [ho]
  by_cases hw : Region.wanted o (yielded ops a.tmps) = true
  · rw [if_pos hw] at hk
    rw [if_pos hw]
    exact hk
  · rw [if_neg hw] at hk
    rw [if_neg hw]
    exact hk
/-- An array that agrees with another but at the places of D. -/
theorem array_of_old {α : Type} (z : α) : ∀ (D : List Nat) (x y : Array α), x.size = y.size → (∀ t, t ∉ D → x.getD t z = y.getD t z) → x = D.foldl (fun y d => y.setIfInBounds d (x.getD d z)) y
  | [], x, y, hs, h => by
    apply Array.ext hs
    intro i h1 h2
    have := h i (by simp)
    rw [Array.getD_eq_getD_getElem?, Array.getD_eq_getD_getElem?, Array.getElem?_eq_getElem h1, Array.getElem?_eq_getElem h2] at this
    simpa using this
  | d :: D, x, y, hs, h => by
    rw [List.foldl_cons]
    refine array_of_old z D x _ (by simp [hs]) (fun t ht => ?_)
    by_cases e : d = t
    · subst e
      rcases Nat.lt_or_ge d y.size with hd | hd
      · rw [Array.getD_eq_getD_getElem? (xs := y.setIfInBounds _ _), Array.getElem?_setIfInBounds_self_of_lt hd]; rfl
      · rw [Array.getD_eq_getD_getElem?, Array.getD_eq_getD_getElem?, Array.getElem?_eq_none (by omega), Array.getElem?_eq_none (by simp; omega)]
    · rw [Array.getD_eq_getD_getElem? (xs := y.setIfInBounds _ _), Array.getElem?_setIfInBounds_ne e, ← Array.getD_eq_getD_getElem?]
      exact h t (by simp; exact ⟨fun e' => e e'.symm, ht⟩)
end Go.Proofs.Ytebmegodeglobaa

namespace Go.Proofs.Ytebmegodeglobaa
open Go.RowKit

/-- Operation k has come up. -/
def up (listed : Array Bool) (k : Nat) : Prop := listed.getD k false = true
theorem up_set {listed : Array Bool} {i k : Nat} (h : up (listed.setIfInBounds i true) k) (hne : k ≠ i) : up listed k := by
  unfold up at h ⊢
  rw [Array.getD_eq_getD_getElem?, Array.getElem?_setIfInBounds_ne (fun e => hne e.symm), ← Array.getD_eq_getD_getElem?] at h
  exact h
theorem up_keep {listed : Array Bool} {i k : Nat} (h : up listed k) : up (listed.setIfInBounds i true) k := by
  unfold up at h ⊢
  by_cases e : i = k
  · subst e
    have hi : i < listed.size := by
      rcases Nat.lt_or_ge i listed.size with h1 | h1
      · exact h1
      · rw [Array.getD_eq_getD_getElem?, Array.getElem?_eq_none h1] at h; cases h
    rw [Array.getD_eq_getD_getElem?, Array.getElem?_setIfInBounds_self_of_lt hi]; rfl
  · rw [Array.getD_eq_getD_getElem?, Array.getElem?_setIfInBounds_ne e, ← Array.getD_eq_getD_getElem?]
    exact h
theorem up_self {listed : Array Bool} {i : Nat} (h : i < listed.size) : up (listed.setIfInBounds i true) i := by
  unfold up
  rw [Array.getD_eq_getD_getElem?, Array.getElem?_setIfInBounds_self_of_lt h]; rfl
theorem not_up {listed : Array Bool} {i : Nat} (h : listed.getD i true = false) : ¬ up listed i := by
  unfold up
  rw [Array.getD_eq_getD_getElem?] at h ⊢
  rcases e : listed[i]? with _ | b
  · rw [e] at h; cases h
  · rw [e] at h
    simp only [Option.getD_some] at h ⊢
    rw [h]; simp
theorem up_none (n k : Nat) : ¬ up (Array.replicate n false) k := by
  unfold up
  rw [Array.getD_eq_getD_getElem?, Array.getElem?_replicate]
  split <;> simp

/-- Operation i waits for operation j. -/
def waitsOn (ops : Array Oper) (i j : Nat) : Bool := match ops[i]? with
  | some o => o.after.any fun e => e.on == j && Region.binds .any e
  | none => false
theorem up_dep {ops : Array Oper} {listed : Array Bool} {i j : Nat} (h : i ∈ Region.ready .any ops listed) (hw : waitsOn ops i j = true) : up listed j := by
  obtain ⟨_, _, o, ho, haft⟩ := ready_mem h
  unfold waitsOn at hw
  rw [ho] at hw
  obtain ⟨e, he, hb⟩ := Array.any_eq_true'.1 hw
  rw [Bool.and_eq_true] at hb
  have := haft e he hb.2
  rw [show e.on = j from by simpa using hb.1] at this
  exact this
/-- Each operation waits for earlier ones only. -/
def backward (ops : Array Oper) : Bool := (List.range ops.size).all fun i => match ops[i]? with
  | some o => o.after.all fun e => !Region.binds .any e || decide (e.on < i)
  | none => true
theorem up_next {ops : Array Oper} {listed : Array Bool} (hb : backward ops = true) (hs : listed.size = ops.size) (hr : Region.ready .any ops listed = []) (k : Nat) (hk : k < ops.size) (ih : ∀ j, j < k → up listed j) : up listed k := by
  cases hg : listed.getD k true with
  | true =>
    unfold up
    rw [Array.getD_eq_getD_getElem?, Array.getElem?_eq_getElem (by omega)] at hg ⊢
    exact hg
  | false =>
    exfalso
    have ho : ops[k]? = some ops[k] := Array.getElem?_eq_getElem hk
    have hm : k ∈ Region.ready .any ops listed := by
      unfold Region.ready
      rw [List.mem_filter, List.mem_range]
      refine ⟨hk, ?_⟩
      rw [hg, ho]
      simp only [Bool.not_false, Bool.true_and, Option.map_some, Option.getD_some]
      rw [Array.all_eq_true']
      intro e he
      cases hbd : Region.binds .any e with
      | false => rfl
      | true =>
        unfold backward at hb
        rw [List.all_eq_true] at hb
        have h1 := hb k (List.mem_range.2 hk)
        rw [ho] at h1
        have h2 := Array.all_eq_true'.1 h1 e he
        rw [hbd] at h2
        simp only [Bool.not_true, Bool.false_or, decide_eq_true_eq] at h2 ⊢
        exact ih e.on h2
    rw [hr] at hm
    cases hm
theorem all_up {ops : Array Oper} {listed : Array Bool} (hb : backward ops = true) (hs : listed.size = ops.size) (hr : Region.ready .any ops listed = []) (k : Nat) (hk : k < ops.size) : up listed k := by
  induction k using Nat.strongRecOn with
  | _ k ih => exact up_next hb hs hr k hk (fun j hj => ih j hj (by omega))

/-- No two operations write one temporary. -/
def dstOnce (ops : Array Oper) : Bool := (List.range ops.size).all fun k => (List.range ops.size).all fun k' => k == k' || match (ops[k]?).bind (·.dst), (ops[k']?).bind (·.dst) with
  | some t, some t' => t != t'
  | _, _ => true
theorem dstOnce_spec {ops : Array Oper} (h : dstOnce ops = true) : DstOnce ops := by
  intro k k' o o' t ho ho' ht ht'
  unfold dstOnce at h
  rw [List.all_eq_true] at h
  have h1 := h k (List.mem_range.2 (Array.getElem?_eq_some_iff.1 ho).1)
  rw [List.all_eq_true] at h1
  have h2 := h1 k' (List.mem_range.2 (Array.getElem?_eq_some_iff.1 ho').1)
  rw [ho, ho'] at h2
  simp only [Option.bind_some, ht, ht', bne_self_eq_false, Bool.or_false] at h2
  simpa using h2
/-- The temporaries that are written are those of D, and lie within. -/
def dstIn (ops : Array Oper) (D : List Nat) (n : Nat) : Bool := ops.all fun o => match o.dst with
  | some t => D.contains t && decide (t < n)
  | none => true
theorem dstIn_spec {ops : Array Oper} {D : List Nat} {n : Nat} (h : dstIn ops D n = true) {k t : Nat} {o : Oper} (ho : ops[k]? = some o) (ht : o.dst = some t) : t ∈ D ∧ t < n := by
  unfold dstIn at h
  have := Array.all_eq_true'.1 h o (Array.mem_of_getElem? ho)
  rw [ht] at this
  simp only [Bool.and_eq_true, List.contains_iff_mem, decide_eq_true_eq] at this
  exact this

/-- An operation's step, closed to tactics that look into the goal (whnf would reckon its guard). -/
structure OpIn (F : Fence) (n : Nat) (P : Program) (ops : Array Oper) (Q : Exit → Act → World → Prop) (i : Nat) (K : Act → World → Prop) (a : Act) (w : World) : Prop where
  out : wpOpIn F n P ops Q i K a w
structure OpOut (P : Program) (ops : Array Oper) (Q : Exit → Act → World → Prop) (i : Nat) (K : Act → World → Prop) (a : Act) (w : World) : Prop where
  out : wpOp P ops Q i K a w
theorem wpIn_region_gj {F : Fence} {n : Nat} {P : Program} {ops : Array Oper} {Q : Exit → Act → World → Prop} {J : Array Bool → Act → World → Prop} {id : Nat} {a : Act} {w : World} (hm : P.follows .mixedOrders = true)
    (hstep : ∀ listed a w i, i ∈ Region.ready .any ops listed → J listed a w → OpIn F n P ops Q i (J (listed.setIfInBounds i true)) a w)
    (hend : ∀ listed a w, Region.ready .any ops listed = [] → J listed a w → Q .normal a w)
    (h0 : J (Array.replicate ops.size false) a w.drew) : (Code.region id ops true).wpIn F n P Q a w :=
  wpIn_region_inv hm (fun l a w i h j => (hstep l a w i h j).out) hend h0
theorem wp_region_gj {P : Program} {ops : Array Oper} {Q : Exit → Act → World → Prop} {J : Array Bool → Act → World → Prop} {id : Nat} {a : Act} {w : World} (hm : P.follows .mixedOrders = true)
    (hstep : ∀ listed a w i, i ∈ Region.ready .any ops listed → J listed a w → OpOut P ops Q i (J (listed.setIfInBounds i true)) a w)
    (hend : ∀ listed a w, Region.ready .any ops listed = [] → J listed a w → Q .normal a w)
    (h0 : J (Array.replicate ops.size false) a w.drew) : (Code.region id ops true).wp P Q a w :=
  wp_region_inv hm (fun l a w i h j => (hstep l a w i h j).out) hend h0
structure GJ (ops : Array Oper) (S : Array Bool → Nat → Value → World → Prop) (C : Array Bool → (Nat → Value) → World → Prop) (a0 : Act) (listed : Array Bool) (a : Act) (w : World) : Prop where
  com : C listed (fun t => a.tmps.getD t undef) w
  defers : a.defers = a0.defers
  size : a.tmps.size = a0.tmps.size
  lsize : listed.size = ops.size
  closed : ∀ i j, up listed i → waitsOn ops i j = true → up listed j
  old : ∀ t : Nat, (∀ (k : Nat) (o : Oper), ops[k]? = some o → o.dst ≠ some t) → a.tmps.getD t undef = a0.tmps.getD t undef
  got : ∀ (k : Nat) (o : Oper) (t : Nat), ops[k]? = some o → o.dst = some t → up listed k → S listed k (a.tmps.getD t undef) w
section
variable {ops : Array Oper} {S : Array Bool → Nat → Value → World → Prop} {C : Array Bool → (Nat → Value) → World → Prop} {a0 a : Act} {listed : Array Bool} {w w' : World}
theorem GJ.start (hC : C (Array.replicate ops.size false) (fun t => a.tmps.getD t undef) w) : GJ ops S C a (Array.replicate ops.size false) a w :=
  ⟨hC, rfl, rfl, by simp, fun _ _ h => absurd h (up_none _ _), fun _ _ => rfl, fun k _ _ _ _ hl => absurd hl (up_none _ _)⟩
theorem GJ.step {i : Nat} {o : Oper} {v : Value} (h : GJ ops S C a0 listed a w) (hd : dstOnce ops = true) (hr : i ∈ Region.ready .any ops listed) (ho : ops[i]? = some o) (hlt : ∀ t, o.dst = some t → t < a0.tmps.size)
    (hS : ∀ k v, k ≠ i → up listed k → S listed k v w → S (listed.setIfInBounds i true) k v w') (hv : ∀ t, o.dst = some t → S (listed.setIfInBounds i true) i v w')
    (hC : C (listed.setIfInBounds i true) (fun t => (a.put o.dst v).tmps.getD t undef) w') : GJ ops S C a0 (listed.setIfInBounds i true) (a.put o.dst v) w' := by
  refine ⟨hC, ?_, ?_, by simp [h.lsize], fun i' j hu hw => ?_, fun t' hn => ?_, fun k o' t' hk ht' hl => ?_⟩
  · unfold Act.put; split <;> exact h.defers
  · unfold Act.put; split <;> simp [h.size]
  · by_cases e : i' = i
    · subst e; exact up_keep (up_dep hr hw)
    · exact up_keep (h.closed i' j (up_set hu e) hw)
  · rw [← h.old t' hn]
    cases ht : o.dst with
    | none => rfl
    | some t =>
      have hne : t ≠ t' := fun e => hn i o ho (e ▸ ht)
      show (a.tmps.setIfInBounds t v).getD t' undef = _
      rw [Array.getD_eq_getD_getElem?, Array.getElem?_setIfInBounds_ne hne, ← Array.getD_eq_getD_getElem?]
  · by_cases hki : k = i
    · subst hki
      obtain rfl : o = o' := by rw [ho] at hk; exact Option.some.inj hk
      rw [ht']
      show S _ _ ((a.tmps.setIfInBounds t' v).getD t' undef) w'
      rw [Array.getD_eq_getD_getElem?, Array.getElem?_setIfInBounds_self_of_lt (by rw [h.size]; exact hlt _ ht')]
      exact hv _ ht'
    · have h2 := hS k _ hki (up_set hl hki) (h.got k o' t' hk ht' (up_set hl hki))
      cases ht : o.dst with
      | none => exact h2
      | some t =>
        have hne : t ≠ t' := fun e => hki (dstOnce_spec hd k i o' o t' hk ho ht' (e ▸ ht))
        show S _ _ ((a.tmps.setIfInBounds t v).getD t' undef) w'
        rw [Array.getD_eq_getD_getElem?, Array.getElem?_setIfInBounds_ne hne, ← Array.getD_eq_getD_getElem?]
        exact h2
/-- The state written out. -/
theorem GJ.opened (h : GJ ops S C a0 listed a w) (D : List Nat) (hD : dstIn ops D a0.tmps.size = true) : ∃ f : Nat → Value, a = ⟨D.foldl (fun y d => y.setIfInBounds d (f d)) a0.tmps, a0.defers⟩ ∧ C listed f w ∧
    ∀ (k : Nat) (o : Oper) (t : Nat), ops[k]? = some o → o.dst = some t → up listed k → S listed k (f t) w := by
  refine ⟨fun t => a.tmps.getD t undef, ?_, h.com, h.got⟩
  have := array_of_old undef D a.tmps a0.tmps h.size (fun t ht => h.old t (fun k o ho e => ht (dstIn_spec hD ho e).1))
  obtain ⟨tm, d⟩ := a
  have hd := h.defers
  simp only at this hd ⊢
  rw [← this, hd]
theorem GJ.opIn {F : Fence} {n : Nat} {P : Program} {Q : Exit → Act → World → Prop} {i : Nat} {o : Oper} (h : GJ ops S C a0 listed a w) (hd : dstOnce ops = true) (hr : i ∈ Region.ready .any ops listed) (ho : ops[i]? = some o) (D : List Nat) (hD : dstIn ops D a0.tmps.size = true)
    (hrun : ∀ K : Act → World → Prop, (∀ v w', (∀ k v, k ≠ i → up listed k → S listed k v w → S (listed.setIfInBounds i true) k v w') → (∀ t, o.dst = some t → S (listed.setIfInBounds i true) i v w') →
      C (listed.setIfInBounds i true) (fun t => (a.put o.dst v).tmps.getD t undef) w' → K (a.put o.dst v) w') →
      if Region.wanted o (yielded ops a.tmps) = true then o.wpIn F n P a w K Q else (∀ f, o.about P w a.eval = some f → F.fn f) ∧ K (a.put o.dst undef) w) :
    OpIn F n P ops Q i (GJ ops S C a0 (listed.setIfInBounds i true)) a w := by
  have hk := hrun (GJ ops S C a0 (listed.setIfInBounds i true)) (fun v w' h1 h2 h3 => h.step hd hr ho (fun _ ht => (dstIn_spec hD ho ht).2) h1 h2 h3)
  refine ⟨?_⟩
  unfold wpOpIn
  simp only [ho]
  by_cases hw : Region.wanted o (yielded ops a.tmps) = true
  · rw [if_pos hw] at hk
    rw [if_pos hw]
    exact hk
  · rw [if_neg hw] at hk
    rw [if_neg hw]
    exact hk
theorem wanted_of {o oj : Oper} {tm : Array Value} {j tj : Nat} {b c : Bool} (hg : o.guard = some (j, b)) (hj : ops[j]? = some oj) (htj : oj.dst = some tj) (hv : tm.getD tj undef = .bool c) : Region.wanted o (yielded ops tm) = (c == b) := by
  have hlt : tj < tm.size := by
    rcases Nat.lt_or_ge tj tm.size with h | h
    · exact h
    · rw [Array.getD_eq_getD_getElem?, Array.getElem?_eq_none h] at hv; cases hv
  have h2 : tm[tj]? = some (.bool c) := by
    rw [Array.getD_eq_getD_getElem?, Array.getElem?_eq_getElem hlt] at hv
    rw [Array.getElem?_eq_getElem hlt]
    exact congrArg some hv
  unfold Region.wanted
  rw [hg]
  simp only [yielded, hj, Option.bind_some, htj, h2]
  cases c <;> cases b <;> rfl
/-- A guarded operation that is wanted. -/
theorem GJ.opYes {F : Fence} {n : Nat} {P : Program} {Q : Exit → Act → World → Prop} {i j tj : Nat} {b c : Bool} {o oj : Oper} (h : GJ ops S C a0 listed a w) (hd : dstOnce ops = true) (hr : i ∈ Region.ready .any ops listed) (ho : ops[i]? = some o) (D : List Nat) (hD : dstIn ops D a0.tmps.size = true)
    (hg : o.guard = some (j, b)) (hj : ops[j]? = some oj) (htj : oj.dst = some tj) (hv : a.tmps.getD tj undef = .bool c) (hcb : (c == b) = true)
    (hrun : ∀ K : Act → World → Prop, (∀ v w', (∀ k v, k ≠ i → up listed k → S listed k v w → S (listed.setIfInBounds i true) k v w') → (∀ t, o.dst = some t → S (listed.setIfInBounds i true) i v w') →
      C (listed.setIfInBounds i true) (fun t => (a.put o.dst v).tmps.getD t undef) w' → K (a.put o.dst v) w') → o.wpIn F n P a w K Q) :
    OpIn F n P ops Q i (GJ ops S C a0 (listed.setIfInBounds i true)) a w := by
  refine h.opIn hd hr ho D hD (fun K hK => ?_)
  rw [wanted_of hg hj htj hv, if_pos hcb]
  exact hrun K hK
/-- A guarded operation that is not wanted. -/
theorem GJ.opNo {F : Fence} {n : Nat} {P : Program} {Q : Exit → Act → World → Prop} {i j tj : Nat} {b c : Bool} {o oj : Oper} (h : GJ ops S C a0 listed a w) (hd : dstOnce ops = true) (hr : i ∈ Region.ready .any ops listed) (ho : ops[i]? = some o) (D : List Nat) (hD : dstIn ops D a0.tmps.size = true)
    (hg : o.guard = some (j, b)) (hj : ops[j]? = some oj) (htj : oj.dst = some tj) (hv : a.tmps.getD tj undef = .bool c) (hcb : (c == b) = false) (hab : ∀ f, o.about P w a.eval = some f → F.fn f)
    (hS : ∀ k v, k ≠ i → up listed k → S listed k v w → S (listed.setIfInBounds i true) k v w) (hv' : ∀ t, o.dst = some t → S (listed.setIfInBounds i true) i undef w)
    (hC : C (listed.setIfInBounds i true) (fun t => (a.put o.dst undef).tmps.getD t undef) w) :
    OpIn F n P ops Q i (GJ ops S C a0 (listed.setIfInBounds i true)) a w := by
  refine h.opIn hd hr ho D hD (fun K hK => ?_)
  rw [wanted_of hg hj htj hv, if_neg (by rw [hcb]; simp)]
  exact ⟨hab, hK _ _ hS hv' hC⟩
theorem GJ.op {P : Program} {Q : Exit → Act → World → Prop} {i : Nat} {o : Oper} (h : GJ ops S C a0 listed a w) (hd : dstOnce ops = true) (hr : i ∈ Region.ready .any ops listed) (ho : ops[i]? = some o) (D : List Nat) (hD : dstIn ops D a0.tmps.size = true)
    (hrun : ∀ K : Act → World → Prop, (∀ v w', (∀ k v, k ≠ i → up listed k → S listed k v w → S (listed.setIfInBounds i true) k v w') → (∀ t, o.dst = some t → S (listed.setIfInBounds i true) i v w') →
      C (listed.setIfInBounds i true) (fun t => (a.put o.dst v).tmps.getD t undef) w' → K (a.put o.dst v) w') →
      if Region.wanted o (yielded ops a.tmps) = true then o.wp P a w K Q else K (a.put o.dst undef) w) :
    OpOut P ops Q i (GJ ops S C a0 (listed.setIfInBounds i true)) a w := by
  have hk := hrun (GJ ops S C a0 (listed.setIfInBounds i true)) (fun v w' h1 h2 h3 => h.step hd hr ho (fun _ ht => (dstIn_spec hD ho ht).2) h1 h2 h3)
  refine ⟨?_⟩
  unfold wpOp
  simp only [ho]
  by_cases hw : Region.wanted o (yielded ops a.tmps) = true
  · rw [if_pos hw] at hk
    rw [if_pos hw]
    exact .inl hk
  · rw [if_neg hw] at hk
    rw [if_neg hw]
    exact hk
end
end Go.Proofs.Ytebmegodeglobaa

namespace Go.Proofs.Ytebmegodeglobaa
open Go.RowKit

def Stays (P : World → Value → Prop) : Prop := ∀ w w' v, P w v → Below w.heap.size w w' → P w' v
inductive KS where
  | any
  | eq (u : Value)
  | st (P : World → Value → Prop) (h : Stays P)
  | pv (P : Value → Prop) (Q : World → Value → Prop) (h : Stays Q)
/-- Operation iS is the store. -/
def KS.holds (iS : Nat) (listed : Array Bool) (k : KS) (v : Value) (w : World) : Prop := match k with
  | .any => True
  | .eq u => v = u
  | .st P _ => ¬ up listed iS → P w v
  | .pv P Q _ => P v ∧ (¬ up listed iS → Q w v)
def SS (iS : Nat) (K : Nat → KS) (listed : Array Bool) (k : Nat) (v : Value) (w : World) : Prop := (K k).holds iS listed v w
section
variable {iS i k : Nat} {K : Nat → KS} {listed : Array Bool} {v : Value} {w w' : World}
theorem SS.of (κ : KS) (hk : K k = κ) (h : κ.holds iS listed v w) : SS iS K listed k v w := by unfold SS; rw [hk]; exact h
theorem SS.keep (h : SS iS K listed k v w) (hb : Below w.heap.size w w') : SS iS K (listed.setIfInBounds i true) k v w' := by
  unfold SS at h ⊢
  generalize K k = κ at h ⊢
  cases κ with
  | any => trivial
  | eq u => exact h
  | st P hP => exact fun hu => hP _ _ _ (h (fun u => hu (up_keep u))) hb
  | pv P Q hQ => exact ⟨h.1, fun hu => hQ _ _ _ (h.2 (fun u => hu (up_keep u))) hb⟩
/-- At the store, and behind it. -/
theorem SS.put (h : SS iS K listed k v w) (hu : up (listed.setIfInBounds i true) iS) : SS iS K (listed.setIfInBounds i true) k v w' := by
  unfold SS at h ⊢
  generalize K k = κ at h ⊢
  cases κ with
  | any => trivial
  | eq u => exact h
  | st P hP => exact fun hn => absurd hu hn
  | pv P Q hQ => exact ⟨h.1, fun hn => absurd hu hn⟩
end
theorem below_gs {B : Nat} {w w' : World} (h : Below B w w') : Below B w w'.drew := ⟨h.os, h.tape, h.output, h.size, h.block⟩
/-- Nothing below the region's start has turned; what the store has laid lies there. -/
structure CS (W0 : World) (iS : Nat) (N : World → Prop) (listed : Array Bool) (f : Nat → Value) (w : World) : Prop where
  below : Below W0.heap.size W0 w
  new : up listed iS → N w
section
variable {W0 : World} {iS : Nat} {N : World → Prop} {listed : Array Bool} {f g : Nat → Value} {w w' : World}
theorem CS.start {n : Nat} : CS W0 iS N (Array.replicate n false) f W0.drew := ⟨below_gs (Below.refl _ _), fun h => absurd h (up_none _ _)⟩
theorem CS.keep {i : Nat} (h : CS W0 iS N listed f w) (hi : iS ≠ i) (hN : ∀ w w', N w → Below w.heap.size w w' → N w') (hb : Below w.heap.size w w') : CS W0 iS N (listed.setIfInBounds i true) g w' :=
  ⟨h.below.trans (hb.mono h.below.size), fun u => hN _ _ (h.new (up_set u hi)) hb⟩
theorem CS.put {i : Nat} (hb : Below W0.heap.size W0 w') (hN : N w') : CS W0 iS N (listed.setIfInBounds i true) g w' := ⟨hb, fun _ => hN⟩
end
/-- As CS, and a variable is made (by operation iA, its pointer in tA) and filled (by operation iS): Z is what holds of it before, N behind. -/
structure CA (W0 : World) (iA iS tA : Nat) (Z N : World → Nat → Prop) (listed : Array Bool) (f : Nat → Value) (w : World) : Prop where
  below : Below W0.heap.size W0 w
  var : up listed iA → ∃ b, f tA = .pointer (some ⟨b, 0, none⟩) ∧ W0.heap.size ≤ b ∧ (¬ up listed iS → Z w b) ∧ (up listed iS → N w b)
def StayB (Z : World → Nat → Prop) : Prop := ∀ w w' b, Z w b → Below w.heap.size w w' → Z w' b
theorem up_other' {listed : Array Bool} {i k : Nat} (hne : k ≠ i) : up (listed.setIfInBounds i true) k ↔ up listed k := ⟨fun h => up_set h hne, up_keep⟩
section
variable {W0 : World} {iA iS tA : Nat} {Z N : World → Nat → Prop} {listed : Array Bool} {f g : Nat → Value} {w w' : World} {b : Nat}
theorem CA.start {n : Nat} : CA W0 iA iS tA Z N (Array.replicate n false) f W0.drew := ⟨below_gs (Below.refl _ _), fun h => absurd h (up_none _ _)⟩
theorem CA.keep {i : Nat} (h : CA W0 iA iS tA Z N listed f w) (hA : iA ≠ i) (hS : iS ≠ i) (hg : g tA = f tA) (hZ : StayB Z) (hN : StayB N) (hb : Below w.heap.size w w') : CA W0 iA iS tA Z N (listed.setIfInBounds i true) g w' := by
  refine ⟨h.below.trans (hb.mono h.below.size), fun u => ?_⟩
  rw [up_other' hA] at u
  obtain ⟨b, e, hB, h1, h2⟩ := h.var u
  refine ⟨b, hg.trans e, hB, fun u => ?_, fun u => ?_⟩
  · rw [up_other' hS] at u; exact hZ _ _ _ (h1 u) hb
  · rw [up_other' hS] at u; exact hN _ _ _ (h2 u) hb
theorem CA.alloc (h : CA W0 iA iS tA Z N listed f w) (hne : iS ≠ iA) (nS : ¬ up listed iS) (hb : Below w.heap.size w w') (hg : g tA = .pointer (some ⟨b, 0, none⟩)) (hB : W0.heap.size ≤ b) (hz : Z w' b) : CA W0 iA iS tA Z N (listed.setIfInBounds iA true) g w' :=
  ⟨h.below.trans (hb.mono h.below.size), fun _ => ⟨b, hg, hB, fun _ => hz, fun u => absurd (up_set u hne) nS⟩⟩
theorem CA.put (hl : iS < listed.size) (hb : Below W0.heap.size W0 w') (hg : g tA = .pointer (some ⟨b, 0, none⟩)) (hB : W0.heap.size ≤ b) (hn : N w' b) : CA W0 iA iS tA Z N (listed.setIfInBounds iS true) g w' :=
  ⟨hb, fun _ => ⟨b, hg, hB, fun u => absurd (up_self hl) u, fun _ => hn⟩⟩
end
theorem not_up_ge {listed : Array Bool} {i : Nat} (h : listed.size ≤ i) : ¬ up listed i := by
  unfold up
  rw [Array.getD_eq_getD_getElem?, Array.getElem?_eq_none h]
  simp
section
variable {ops : Array Oper} {S : Array Bool → Nat → Value → World → Prop} {C : Array Bool → (Nat → Value) → World → Prop} {a0 a : Act} {listed : Array Bool} {w w' : World}
/-- The state written out, and the two facts on the region that each step wants. -/
theorem GJ.open2 (h : GJ ops S C a0 listed a w) (D : List Nat) (hd : dstOnce ops = true) (hD : dstIn ops D a0.tmps.size = true) : ∃ f : Nat → Value, a = ⟨D.foldl (fun y d => y.setIfInBounds d (f d)) a0.tmps, a0.defers⟩ ∧ C listed f w ∧
    (∀ (k : Nat) (o : Oper) (t : Nat), ops[k]? = some o → o.dst = some t → up listed k → S listed k (f t) w) ∧ dstOnce ops = true ∧ dstIn ops D a0.tmps.size = true := by
  obtain ⟨f, h1, h2, h3⟩ := h.opened D hD
  exact ⟨f, h1, h2, h3, hd, hD⟩
/-- A guarded operation that is wanted. -/
theorem GJ.wanted {P : Program} {Q : Exit → Act → World → Prop} {i j tj : Nat} {b c : Bool} {o oj : Oper} (h : GJ ops S C a0 listed a w) (hd : dstOnce ops = true) (hr : i ∈ Region.ready .any ops listed) (ho : ops[i]? = some o) (D : List Nat) (hD : dstIn ops D a0.tmps.size = true)
    (hg : o.guard = some (j, b)) (hj : ops[j]? = some oj) (htj : oj.dst = some tj) (hv : a.tmps.getD tj undef = .bool c) (hcb : (c == b) = true)
    (hrun : ∀ K : Act → World → Prop, (∀ v w', (∀ k v, k ≠ i → up listed k → S listed k v w → S (listed.setIfInBounds i true) k v w') → (∀ t, o.dst = some t → S (listed.setIfInBounds i true) i v w') →
      C (listed.setIfInBounds i true) (fun t => (a.put o.dst v).tmps.getD t undef) w' → K (a.put o.dst v) w') → o.wp P a w K Q) :
    OpOut P ops Q i (GJ ops S C a0 (listed.setIfInBounds i true)) a w := by
  have hk := hrun (GJ ops S C a0 (listed.setIfInBounds i true)) (fun v w' h1 h2 h3 => h.step hd hr ho (fun _ ht => (dstIn_spec hD ho ht).2) h1 h2 h3)
  refine ⟨?_⟩
  unfold wpOp
  simp only [ho]
  rw [if_pos (by rw [wanted_of hg hj htj hv]; exact hcb)]
  exact .inl hk
end
end Go.Proofs.Ytebmegodeglobaa
