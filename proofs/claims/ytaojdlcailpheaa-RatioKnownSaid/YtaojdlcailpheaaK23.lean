/- Regions that draw their order, by an invariant, more general: what a temporary holds may hang on what has come up, and the world may turn. -/
import Derived.Test.YtaojdlcailpheaaK22
set_option linter.unusedVariables false
namespace Go.Proofs.Ytaojdlcailpheaa
open Go.RowKit

/-- Operation k has come up. -/
def up (listed : Array Bool) (k : Nat) : Prop := listed.getD k false = true
theorem up_set {listed : Array Bool} {i k : Nat} (h : up (listed.setIfInBounds i true) k) (hne : k ≠ i) : up listed k := by
  unfold up at h ⊢
  rw [Array.getD_eq_getD_getElem?, Array.getElem?_setIfInBounds_ne (fun e => hne e.symm), ← Array.getD_eq_getD_getElem?] at h
  exact h
theorem up_keep {listed : Array Bool} {i k : Nat} (h : up listed k) : up (listed.setIfInBounds i true) k := by
  unfold up at h ⊢
  by_cases e : i = k
  · subst e
    have hi : i < listed.size := by
      rcases Nat.lt_or_ge i listed.size with h1 | h1
      · exact h1
      · rw [Array.getD_eq_getD_getElem?, Array.getElem?_eq_none h1] at h; cases h
    rw [Array.getD_eq_getD_getElem?, Array.getElem?_setIfInBounds_self_of_lt hi]; rfl
  · rw [Array.getD_eq_getD_getElem?, Array.getElem?_setIfInBounds_ne e, ← Array.getD_eq_getD_getElem?]
    exact h
theorem up_self {listed : Array Bool} {i : Nat} (h : i < listed.size) : up (listed.setIfInBounds i true) i := by
  unfold up
  rw [Array.getD_eq_getD_getElem?, Array.getElem?_setIfInBounds_self_of_lt h]; rfl
theorem not_up {listed : Array Bool} {i : Nat} (h : listed.getD i true = false) : ¬ up listed i := by
  unfold up
  rw [Array.getD_eq_getD_getElem?] at h ⊢
  rcases e : listed[i]? with _ | b
  · rw [e] at h; cases h
  · rw [e] at h
    simp only [Option.getD_some] at h ⊢
    rw [h]; simp
theorem up_none (n k : Nat) : ¬ up (Array.replicate n false) k := by
  unfold up
  rw [Array.getD_eq_getD_getElem?, Array.getElem?_replicate]
  split <;> simp

/-- Operation i waits for operation j. -/
def waitsOn (ops : Array Oper) (i j : Nat) : Bool := match ops[i]? with
  | some o => o.after.any fun e => e.on == j && Region.binds .any e
  | none => false
theorem up_dep {ops : Array Oper} {listed : Array Bool} {i j : Nat} (h : i ∈ Region.ready .any ops listed) (hw : waitsOn ops i j = true) : up listed j := by
  obtain ⟨_, _, o, ho, haft⟩ := ready_mem h
  unfold waitsOn at hw
  rw [ho] at hw
  obtain ⟨e, he, hb⟩ := Array.any_eq_true'.1 hw
  rw [Bool.and_eq_true] at hb
  have := haft e he hb.2
  rw [show e.on = j from by simpa using hb.1] at this
  exact this
/-- Each operation waits for earlier ones only. -/
def backward (ops : Array Oper) : Bool := (List.range ops.size).all fun i => match ops[i]? with
  | some o => o.after.all fun e => !Region.binds .any e || decide (e.on < i)
  | none => true
theorem up_next {ops : Array Oper} {listed : Array Bool} (hb : backward ops = true) (hs : listed.size = ops.size) (hr : Region.ready .any ops listed = []) (k : Nat) (hk : k < ops.size) (ih : ∀ j, j < k → up listed j) : up listed k := by
  cases hg : listed.getD k true with
  | true =>
    unfold up
    rw [Array.getD_eq_getD_getElem?, Array.getElem?_eq_getElem (by omega)] at hg ⊢
    exact hg
  | false =>
    exfalso
    have ho : ops[k]? = some ops[k] := Array.getElem?_eq_getElem hk
    have hm : k ∈ Region.ready .any ops listed := by
      unfold Region.ready
      rw [List.mem_filter, List.mem_range]
      refine ⟨hk, ?_⟩
      rw [hg, ho]
      simp only [Bool.not_false, Bool.true_and, Option.map_some, Option.getD_some]
      rw [Array.all_eq_true']
      intro e he
      cases hbd : Region.binds .any e with
      | false => rfl
      | true =>
        unfold backward at hb
        rw [List.all_eq_true] at hb
        have h1 := hb k (List.mem_range.2 hk)
        rw [ho] at h1
        have h2 := Array.all_eq_true'.1 h1 e he
        rw [hbd] at h2
        simp only [Bool.not_true, Bool.false_or, decide_eq_true_eq] at h2 ⊢
        exact ih e.on h2
    rw [hr] at hm
    cases hm
theorem all_up {ops : Array Oper} {listed : Array Bool} (hb : backward ops = true) (hs : listed.size = ops.size) (hr : Region.ready .any ops listed = []) (k : Nat) (hk : k < ops.size) : up listed k := by
  induction k using Nat.strongRecOn with
  | _ k ih => exact up_next hb hs hr k hk (fun j hj => ih j hj (by omega))

/-- No two operations write one temporary. -/
def dstOnce (ops : Array Oper) : Bool := (List.range ops.size).all fun k => (List.range ops.size).all fun k' => k == k' || match (ops[k]?).bind (·.dst), (ops[k']?).bind (·.dst) with
  | some t, some t' => t != t'
  | _, _ => true
theorem dstOnce_spec {ops : Array Oper} (h : dstOnce ops = true) : DstOnce ops := by
  intro k k' o o' t ho ho' ht ht'
  unfold dstOnce at h
  rw [List.all_eq_true] at h
  have h1 := h k (List.mem_range.2 (Array.getElem?_eq_some_iff.1 ho).1)
  rw [List.all_eq_true] at h1
  have h2 := h1 k' (List.mem_range.2 (Array.getElem?_eq_some_iff.1 ho').1)
  rw [ho, ho'] at h2
  simp only [Option.bind_some, ht, ht', bne_self_eq_false, Bool.or_false] at h2
  simpa using h2
/-- The temporaries that are written are those of D, and lie within. -/
def dstIn (ops : Array Oper) (D : List Nat) (n : Nat) : Bool := ops.all fun o => match o.dst with
  | some t => D.contains t && decide (t < n)
  | none => true
theorem dstIn_spec {ops : Array Oper} {D : List Nat} {n : Nat} (h : dstIn ops D n = true) {k t : Nat} {o : Oper} (ho : ops[k]? = some o) (ht : o.dst = some t) : t ∈ D ∧ t < n := by
  unfold dstIn at h
  have := Array.all_eq_true'.1 h o (Array.mem_of_getElem? ho)
  rw [ht] at this
  simp only [Bool.and_eq_true, List.contains_iff_mem, decide_eq_true_eq] at this
  exact this

/-- An operation's step, closed to tactics that look into the goal (whnf would reckon its guard). -/
structure OpIn (F : Fence) (n : Nat) (P : Program) (ops : Array Oper) (Q : Exit → Act → World → Prop) (i : Nat) (K : Act → World → Prop) (a : Act) (w : World) : Prop where
  out : wpOpIn F n P ops Q i K a w
structure OpOut (P : Program) (ops : Array Oper) (Q : Exit → Act → World → Prop) (i : Nat) (K : Act → World → Prop) (a : Act) (w : World) : Prop where
  out : wpOp P ops Q i K a w
theorem wpIn_region_gj {F : Fence} {n : Nat} {P : Program} {ops : Array Oper} {Q : Exit → Act → World → Prop} {J : Array Bool → Act → World → Prop} {id : Nat} {a : Act} {w : World} (hm : P.follows .mixedOrders = true)
    (hstep : ∀ listed a w i, i ∈ Region.ready .any ops listed → J listed a w → OpIn F n P ops Q i (J (listed.setIfInBounds i true)) a w)
    (hend : ∀ listed a w, Region.ready .any ops listed = [] → J listed a w → Q .normal a w)
    (h0 : J (Array.replicate ops.size false) a w.drew) : (Code.region id ops true).wpIn F n P Q a w :=
  wpIn_region_inv hm (fun l a w i h j => (hstep l a w i h j).out) hend h0
theorem wp_region_gj {P : Program} {ops : Array Oper} {Q : Exit → Act → World → Prop} {J : Array Bool → Act → World → Prop} {id : Nat} {a : Act} {w : World} (hm : P.follows .mixedOrders = true)
    (hstep : ∀ listed a w i, i ∈ Region.ready .any ops listed → J listed a w → OpOut P ops Q i (J (listed.setIfInBounds i true)) a w)
    (hend : ∀ listed a w, Region.ready .any ops listed = [] → J listed a w → Q .normal a w)
    (h0 : J (Array.replicate ops.size false) a w.drew) : (Code.region id ops true).wp P Q a w :=
  wp_region_inv hm (fun l a w i h j => (hstep l a w i h j).out) hend h0
structure GJ (ops : Array Oper) (S : Array Bool → Nat → Value → World → Prop) (C : Array Bool → (Nat → Value) → World → Prop) (a0 : Act) (listed : Array Bool) (a : Act) (w : World) : Prop where
  com : C listed (fun t => a.tmps.getD t undef) w
  defers : a.defers = a0.defers
  size : a.tmps.size = a0.tmps.size
  lsize : listed.size = ops.size
  closed : ∀ i j, up listed i → waitsOn ops i j = true → up listed j
  old : ∀ t : Nat, (∀ (k : Nat) (o : Oper), ops[k]? = some o → o.dst ≠ some t) → a.tmps.getD t undef = a0.tmps.getD t undef
  got : ∀ (k : Nat) (o : Oper) (t : Nat), ops[k]? = some o → o.dst = some t → up listed k → S listed k (a.tmps.getD t undef) w
section
variable {ops : Array Oper} {S : Array Bool → Nat → Value → World → Prop} {C : Array Bool → (Nat → Value) → World → Prop} {a0 a : Act} {listed : Array Bool} {w w' : World}
theorem GJ.start (hC : C (Array.replicate ops.size false) (fun t => a.tmps.getD t undef) w) : GJ ops S C a (Array.replicate ops.size false) a w :=
  ⟨hC, rfl, rfl, by simp, fun _ _ h => absurd h (up_none _ _), fun _ _ => rfl, fun k _ _ _ _ hl => absurd hl (up_none _ _)⟩
theorem GJ.step {i : Nat} {o : Oper} {v : Value} (h : GJ ops S C a0 listed a w) (hd : dstOnce ops = true) (hr : i ∈ Region.ready .any ops listed) (ho : ops[i]? = some o) (hlt : ∀ t, o.dst = some t → t < a0.tmps.size)
    (hS : ∀ k v, k ≠ i → up listed k → S listed k v w → S (listed.setIfInBounds i true) k v w') (hv : ∀ t, o.dst = some t → S (listed.setIfInBounds i true) i v w')
    (hC : C (listed.setIfInBounds i true) (fun t => (a.put o.dst v).tmps.getD t undef) w') : GJ ops S C a0 (listed.setIfInBounds i true) (a.put o.dst v) w' := by
  refine ⟨hC, ?_, ?_, by simp [h.lsize], fun i' j hu hw => ?_, fun t' hn => ?_, fun k o' t' hk ht' hl => ?_⟩
  · unfold Act.put; split <;> exact h.defers
  · unfold Act.put; split <;> simp [h.size]
  · by_cases e : i' = i
    · subst e; exact up_keep (up_dep hr hw)
    · exact up_keep (h.closed i' j (up_set hu e) hw)
  · rw [← h.old t' hn]
    cases ht : o.dst with
    | none => rfl
    | some t =>
      have hne : t ≠ t' := fun e => hn i o ho (e ▸ ht)
      show (a.tmps.setIfInBounds t v).getD t' undef = _
      rw [Array.getD_eq_getD_getElem?, Array.getElem?_setIfInBounds_ne hne, ← Array.getD_eq_getD_getElem?]
  · by_cases hki : k = i
    · subst hki
      obtain rfl : o = o' := by rw [ho] at hk; exact Option.some.inj hk
      rw [ht']
      show S _ _ ((a.tmps.setIfInBounds t' v).getD t' undef) w'
      rw [Array.getD_eq_getD_getElem?, Array.getElem?_setIfInBounds_self_of_lt (by rw [h.size]; exact hlt _ ht')]
      exact hv _ ht'
    · have h2 := hS k _ hki (up_set hl hki) (h.got k o' t' hk ht' (up_set hl hki))
      cases ht : o.dst with
      | none => exact h2
      | some t =>
        have hne : t ≠ t' := fun e => hki (dstOnce_spec hd k i o' o t' hk ho ht' (e ▸ ht))
        show S _ _ ((a.tmps.setIfInBounds t v).getD t' undef) w'
        rw [Array.getD_eq_getD_getElem?, Array.getElem?_setIfInBounds_ne hne, ← Array.getD_eq_getD_getElem?]
        exact h2
/-- The state written out. -/
theorem GJ.opened (h : GJ ops S C a0 listed a w) (D : List Nat) (hD : dstIn ops D a0.tmps.size = true) : ∃ f : Nat → Value, a = ⟨D.foldl (fun y d => y.setIfInBounds d (f d)) a0.tmps, a0.defers⟩ ∧ C listed f w ∧
    ∀ (k : Nat) (o : Oper) (t : Nat), ops[k]? = some o → o.dst = some t → up listed k → S listed k (f t) w := by
  refine ⟨fun t => a.tmps.getD t undef, ?_, h.com, h.got⟩
  have := array_of_old undef D a.tmps a0.tmps h.size (fun t ht => h.old t (fun k o ho e => ht (dstIn_spec hD ho e).1))
  obtain ⟨tm, d⟩ := a
  have hd := h.defers
  simp only at this hd ⊢
  rw [← this, hd]
theorem GJ.opIn {F : Fence} {n : Nat} {P : Program} {Q : Exit → Act → World → Prop} {i : Nat} {o : Oper} (h : GJ ops S C a0 listed a w) (hd : dstOnce ops = true) (hr : i ∈ Region.ready .any ops listed) (ho : ops[i]? = some o) (D : List Nat) (hD : dstIn ops D a0.tmps.size = true)
    (hrun : ∀ K : Act → World → Prop, (∀ v w', (∀ k v, k ≠ i → up listed k → S listed k v w → S (listed.setIfInBounds i true) k v w') → (∀ t, o.dst = some t → S (listed.setIfInBounds i true) i v w') →
      C (listed.setIfInBounds i true) (fun t => (a.put o.dst v).tmps.getD t undef) w' → K (a.put o.dst v) w') →
      if Region.wanted o (yielded ops a.tmps) = true then o.wpIn F n P a w K Q else (∀ f, o.about P w a.eval = some f → F.fn f) ∧ K (a.put o.dst undef) w) :
    OpIn F n P ops Q i (GJ ops S C a0 (listed.setIfInBounds i true)) a w := by
  have hk := hrun (GJ ops S C a0 (listed.setIfInBounds i true)) (fun v w' h1 h2 h3 => h.step hd hr ho (fun _ ht => (dstIn_spec hD ho ht).2) h1 h2 h3)
  refine ⟨?_⟩
  unfold wpOpIn
  simp only [ho]
  by_cases hw : Region.wanted o (yielded ops a.tmps) = true
  · rw [if_pos hw] at hk
    rw [if_pos hw]
    exact hk
  · rw [if_neg hw] at hk
    rw [if_neg hw]
    exact hk
theorem wanted_of {o oj : Oper} {tm : Array Value} {j tj : Nat} {b c : Bool} (hg : o.guard = some (j, b)) (hj : ops[j]? = some oj) (htj : oj.dst = some tj) (hv : tm.getD tj undef = .bool c) : Region.wanted o (yielded ops tm) = (c == b) := by
  have hlt : tj < tm.size := by
    rcases Nat.lt_or_ge tj tm.size with h | h
    · exact h
    · rw [Array.getD_eq_getD_getElem?, Array.getElem?_eq_none h] at hv; cases hv
  have h2 : tm[tj]? = some (.bool c) := by
    rw [Array.getD_eq_getD_getElem?, Array.getElem?_eq_getElem hlt] at hv
    rw [Array.getElem?_eq_getElem hlt]
    exact congrArg some hv
  unfold Region.wanted
  rw [hg]
  simp only [yielded, hj, Option.bind_some, htj, h2]
  cases c <;> cases b <;> rfl
/-- A guarded operation that is wanted. -/
theorem GJ.opYes {F : Fence} {n : Nat} {P : Program} {Q : Exit → Act → World → Prop} {i j tj : Nat} {b c : Bool} {o oj : Oper} (h : GJ ops S C a0 listed a w) (hd : dstOnce ops = true) (hr : i ∈ Region.ready .any ops listed) (ho : ops[i]? = some o) (D : List Nat) (hD : dstIn ops D a0.tmps.size = true)
    (hg : o.guard = some (j, b)) (hj : ops[j]? = some oj) (htj : oj.dst = some tj) (hv : a.tmps.getD tj undef = .bool c) (hcb : (c == b) = true)
    (hrun : ∀ K : Act → World → Prop, (∀ v w', (∀ k v, k ≠ i → up listed k → S listed k v w → S (listed.setIfInBounds i true) k v w') → (∀ t, o.dst = some t → S (listed.setIfInBounds i true) i v w') →
      C (listed.setIfInBounds i true) (fun t => (a.put o.dst v).tmps.getD t undef) w' → K (a.put o.dst v) w') → o.wpIn F n P a w K Q) :
    OpIn F n P ops Q i (GJ ops S C a0 (listed.setIfInBounds i true)) a w := by
  refine h.opIn hd hr ho D hD (fun K hK => ?_)
  rw [wanted_of hg hj htj hv, if_pos hcb]
  exact hrun K hK
/-- A guarded operation that is not wanted. -/
theorem GJ.opNo {F : Fence} {n : Nat} {P : Program} {Q : Exit → Act → World → Prop} {i j tj : Nat} {b c : Bool} {o oj : Oper} (h : GJ ops S C a0 listed a w) (hd : dstOnce ops = true) (hr : i ∈ Region.ready .any ops listed) (ho : ops[i]? = some o) (D : List Nat) (hD : dstIn ops D a0.tmps.size = true)
    (hg : o.guard = some (j, b)) (hj : ops[j]? = some oj) (htj : oj.dst = some tj) (hv : a.tmps.getD tj undef = .bool c) (hcb : (c == b) = false) (hab : ∀ f, o.about P w a.eval = some f → F.fn f)
    (hS : ∀ k v, k ≠ i → up listed k → S listed k v w → S (listed.setIfInBounds i true) k v w) (hv' : ∀ t, o.dst = some t → S (listed.setIfInBounds i true) i undef w)
    (hC : C (listed.setIfInBounds i true) (fun t => (a.put o.dst undef).tmps.getD t undef) w) :
    OpIn F n P ops Q i (GJ ops S C a0 (listed.setIfInBounds i true)) a w := by
  refine h.opIn hd hr ho D hD (fun K hK => ?_)
  rw [wanted_of hg hj htj hv, if_neg (by rw [hcb]; simp)]
  exact ⟨hab, hK _ _ hS hv' hC⟩
theorem GJ.op {P : Program} {Q : Exit → Act → World → Prop} {i : Nat} {o : Oper} (h : GJ ops S C a0 listed a w) (hd : dstOnce ops = true) (hr : i ∈ Region.ready .any ops listed) (ho : ops[i]? = some o) (D : List Nat) (hD : dstIn ops D a0.tmps.size = true)
    (hrun : ∀ K : Act → World → Prop, (∀ v w', (∀ k v, k ≠ i → up listed k → S listed k v w → S (listed.setIfInBounds i true) k v w') → (∀ t, o.dst = some t → S (listed.setIfInBounds i true) i v w') →
      C (listed.setIfInBounds i true) (fun t => (a.put o.dst v).tmps.getD t undef) w' → K (a.put o.dst v) w') →
      if Region.wanted o (yielded ops a.tmps) = true then o.wp P a w K Q else K (a.put o.dst undef) w) :
    OpOut P ops Q i (GJ ops S C a0 (listed.setIfInBounds i true)) a w := by
  have hk := hrun (GJ ops S C a0 (listed.setIfInBounds i true)) (fun v w' h1 h2 h3 => h.step hd hr ho (fun _ ht => (dstIn_spec hD ho ht).2) h1 h2 h3)
  refine ⟨?_⟩
  unfold wpOp
  simp only [ho]
  by_cases hw : Region.wanted o (yielded ops a.tmps) = true
  · rw [if_pos hw] at hk
    rw [if_pos hw]
    exact .inl hk
  · rw [if_neg hw] at hk
    rw [if_neg hw]
    exact hk
end
end Go.Proofs.Ytaojdlcailpheaa
