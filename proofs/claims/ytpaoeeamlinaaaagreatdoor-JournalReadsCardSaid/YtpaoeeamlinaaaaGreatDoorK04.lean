/- Regions that draw their order, by an invariant, more general: what a temporary holds may hang on what has come up, and the world may turn.
   Journal, walks of the library: slices.Equal of steps. -/
import Derived.Test.YtpaoeeamlinaaaaGreatDoorK03
import Derived.Test.YtpaoeeamlinaaaaGreatDoorK02
set_option linter.unusedVariables false
namespace Go.Proofs.YtpaoeeamlinaaaaGreatDoor
open Go.RowKit

/-- Operation k has come up. -/
def up (listed : Array Bool) (k : Nat) : Prop := listed.getD k false = true
theorem up_set {listed : Array Bool} {i k : Nat} (h : up (listed.setIfInBounds i true) k) (hne : k ≠ i) : up listed k := by
  unfold up at h ⊢
  rw [Array.getD_eq_getD_getElem?, Array.getElem?_setIfInBounds_ne (fun e => hne e.symm), ← Array.getD_eq_getD_getElem?] at h
  exact h
theorem up_keep {listed : Array Bool} {i k : Nat} (h : up listed k) : up (listed.setIfInBounds i true) k := by
  unfold up at h ⊢
  by_cases e : i = k
  · subst e
    have hi : i < listed.size := by
      rcases Nat.lt_or_ge i listed.size with h1 | h1
      · exact h1
      · rw [Array.getD_eq_getD_getElem?, Array.getElem?_eq_none h1] at h; cases h
    rw [Array.getD_eq_getD_getElem?, Array.getElem?_setIfInBounds_self_of_lt hi]; rfl
  · rw [Array.getD_eq_getD_getElem?, Array.getElem?_setIfInBounds_ne e, ← Array.getD_eq_getD_getElem?]
    exact h
theorem up_self {listed : Array Bool} {i : Nat} (h : i < listed.size) : up (listed.setIfInBounds i true) i := by
  unfold up
  rw [Array.getD_eq_getD_getElem?, Array.getElem?_setIfInBounds_self_of_lt h]; rfl
theorem not_up {listed : Array Bool} {i : Nat} (h : listed.getD i true = false) : ¬ up listed i := by
  unfold up
  rw [Array.getD_eq_getD_getElem?] at h ⊢
  rcases e : listed[i]? with _ | b
  · rw [e] at h; cases h
  · rw [e] at h
    simp only [Option.getD_some] at h ⊢
    rw [h]; simp
theorem up_none (n k : Nat) : ¬ up (Array.replicate n false) k := by
  unfold up
  rw [Array.getD_eq_getD_getElem?, Array.getElem?_replicate]
  split <;> simp

/-- Operation i waits for operation j. -/
def waitsOn (ops : Array Oper) (i j : Nat) : Bool := match ops[i]? with
  | some o => o.after.any fun e => e.on == j && Region.binds .any e
  | none => false
theorem up_dep {ops : Array Oper} {listed : Array Bool} {i j : Nat} (h : i ∈ Region.ready .any ops listed) (hw : waitsOn ops i j = true) : up listed j := by
  obtain ⟨_, _, o, ho, haft⟩ := ready_mem h
  unfold waitsOn at hw
  rw [ho] at hw
  obtain ⟨e, he, hb⟩ := Array.any_eq_true'.1 hw
  rw [Bool.and_eq_true] at hb
  have := haft e he hb.2
  rw [show e.on = j from by simpa using hb.1] at this
  exact this
/-- Each operation waits for earlier ones only. -/
def backward (ops : Array Oper) : Bool := (List.range ops.size).all fun i => match ops[i]? with
  | some o => o.after.all fun e => !Region.binds .any e || decide (e.on < i)
  | none => true
theorem up_next {ops : Array Oper} {listed : Array Bool} (hb : backward ops = true) (hs : listed.size = ops.size) (hr : Region.ready .any ops listed = []) (k : Nat) (hk : k < ops.size) (ih : ∀ j, j < k → up listed j) : up listed k := by
  cases hg : listed.getD k true with
  | true =>
    unfold up
    rw [Array.getD_eq_getD_getElem?, Array.getElem?_eq_getElem (by omega)] at hg ⊢
    exact hg
  | false =>
    exfalso
    have ho : ops[k]? = some ops[k] := Array.getElem?_eq_getElem hk
    have hm : k ∈ Region.ready .any ops listed := by
      unfold Region.ready
      rw [List.mem_filter, List.mem_range]
      refine ⟨hk, ?_⟩
      rw [hg, ho]
      simp only [Bool.not_false, Bool.true_and, Option.map_some, Option.getD_some]
      rw [Array.all_eq_true']
      intro e he
      cases hbd : Region.binds .any e with
      | false => rfl
      | true =>
        unfold backward at hb
        rw [List.all_eq_true] at hb
        have h1 := hb k (List.mem_range.2 hk)
        rw [ho] at h1
        have h2 := Array.all_eq_true'.1 h1 e he
        rw [hbd] at h2
        simp only [Bool.not_true, Bool.false_or, decide_eq_true_eq] at h2 ⊢
        exact ih e.on h2
    rw [hr] at hm
    cases hm
theorem all_up {ops : Array Oper} {listed : Array Bool} (hb : backward ops = true) (hs : listed.size = ops.size) (hr : Region.ready .any ops listed = []) (k : Nat) (hk : k < ops.size) : up listed k := by
  induction k using Nat.strongRecOn with
  | _ k ih => exact up_next hb hs hr k hk (fun j hj => ih j hj (by omega))

/-- No two operations write one temporary. -/
def dstOnce (ops : Array Oper) : Bool := (List.range ops.size).all fun k => (List.range ops.size).all fun k' => k == k' || match (ops[k]?).bind (·.dst), (ops[k']?).bind (·.dst) with
  | some t, some t' => t != t'
  | _, _ => true
theorem dstOnce_spec {ops : Array Oper} (h : dstOnce ops = true) : DstOnce ops := by
  intro k k' o o' t ho ho' ht ht'
  unfold dstOnce at h
  rw [List.all_eq_true] at h
  have h1 := h k (List.mem_range.2 (Array.getElem?_eq_some_iff.1 ho).1)
  rw [List.all_eq_true] at h1
  have h2 := h1 k' (List.mem_range.2 (Array.getElem?_eq_some_iff.1 ho').1)
  rw [ho, ho'] at h2
  simp only [Option.bind_some, ht, ht', bne_self_eq_false, Bool.or_false] at h2
  simpa using h2
/-- The temporaries that are written are those of D, and lie within. -/
def dstIn (ops : Array Oper) (D : List Nat) (n : Nat) : Bool := ops.all fun o => match o.dst with
  | some t => D.contains t && decide (t < n)
  | none => true
theorem dstIn_spec {ops : Array Oper} {D : List Nat} {n : Nat} (h : dstIn ops D n = true) {k t : Nat} {o : Oper} (ho : ops[k]? = some o) (ht : o.dst = some t) : t ∈ D ∧ t < n := by
  unfold dstIn at h
  have := Array.all_eq_true'.1 h o (Array.mem_of_getElem? ho)
  rw [ht] at this
  simp only [Bool.and_eq_true, List.contains_iff_mem, decide_eq_true_eq] at this
  exact this

/-- An operation's step, closed to tactics that look into the goal (whnf would reckon its guard). -/
structure OpIn (F : Fence) (n : Nat) (P : Program) (ops : Array Oper) (Q : Exit → Act → World → Prop) (i : Nat) (K : Act → World → Prop) (a : Act) (w : World) : Prop where
  out : wpOpIn F n P ops Q i K a w
structure OpOut (P : Program) (ops : Array Oper) (Q : Exit → Act → World → Prop) (i : Nat) (K : Act → World → Prop) (a : Act) (w : World) : Prop where
  out : wpOp P ops Q i K a w
theorem wpIn_region_gj {F : Fence} {n : Nat} {P : Program} {ops : Array Oper} {Q : Exit → Act → World → Prop} {J : Array Bool → Act → World → Prop} {id : Nat} {a : Act} {w : World} (hm : P.follows .mixedOrders = true)
    (hstep : ∀ listed a w i, i ∈ Region.ready .any ops listed → J listed a w → OpIn F n P ops Q i (J (listed.setIfInBounds i true)) a w)
    (hend : ∀ listed a w, Region.ready .any ops listed = [] → J listed a w → Q .normal a w)
    (h0 : J (Array.replicate ops.size false) a w.drew) : (Code.region id ops true).wpIn F n P Q a w :=
  wpIn_region_inv hm (fun l a w i h j => (hstep l a w i h j).out) hend h0
theorem wp_region_gj {P : Program} {ops : Array Oper} {Q : Exit → Act → World → Prop} {J : Array Bool → Act → World → Prop} {id : Nat} {a : Act} {w : World} (hm : P.follows .mixedOrders = true)
    (hstep : ∀ listed a w i, i ∈ Region.ready .any ops listed → J listed a w → OpOut P ops Q i (J (listed.setIfInBounds i true)) a w)
    (hend : ∀ listed a w, Region.ready .any ops listed = [] → J listed a w → Q .normal a w)
    (h0 : J (Array.replicate ops.size false) a w.drew) : (Code.region id ops true).wp P Q a w :=
  wp_region_inv hm (fun l a w i h j => (hstep l a w i h j).out) hend h0
structure GJ (ops : Array Oper) (S : Array Bool → Nat → Value → World → Prop) (C : Array Bool → (Nat → Value) → World → Prop) (a0 : Act) (listed : Array Bool) (a : Act) (w : World) : Prop where
  com : C listed (fun t => a.tmps.getD t undef) w
  defers : a.defers = a0.defers
  size : a.tmps.size = a0.tmps.size
  lsize : listed.size = ops.size
  closed : ∀ i j, up listed i → waitsOn ops i j = true → up listed j
  old : ∀ t : Nat, (∀ (k : Nat) (o : Oper), ops[k]? = some o → o.dst ≠ some t) → a.tmps.getD t undef = a0.tmps.getD t undef
  got : ∀ (k : Nat) (o : Oper) (t : Nat), ops[k]? = some o → o.dst = some t → up listed k → S listed k (a.tmps.getD t undef) w
section
variable {ops : Array Oper} {S : Array Bool → Nat → Value → World → Prop} {C : Array Bool → (Nat → Value) → World → Prop} {a0 a : Act} {listed : Array Bool} {w w' : World}
theorem GJ.start (hC : C (Array.replicate ops.size false) (fun t => a.tmps.getD t undef) w) : GJ ops S C a (Array.replicate ops.size false) a w :=
  ⟨hC, rfl, rfl, by simp, fun _ _ h => absurd h (up_none _ _), fun _ _ => rfl, fun k _ _ _ _ hl => absurd hl (up_none _ _)⟩
theorem GJ.step {i : Nat} {o : Oper} {v : Value} (h : GJ ops S C a0 listed a w) (hd : dstOnce ops = true) (hr : i ∈ Region.ready .any ops listed) (ho : ops[i]? = some o) (hlt : ∀ t, o.dst = some t → t < a0.tmps.size)
    (hS : ∀ k v, k ≠ i → up listed k → S listed k v w → S (listed.setIfInBounds i true) k v w') (hv : ∀ t, o.dst = some t → S (listed.setIfInBounds i true) i v w')
    (hC : C (listed.setIfInBounds i true) (fun t => (a.put o.dst v).tmps.getD t undef) w') : GJ ops S C a0 (listed.setIfInBounds i true) (a.put o.dst v) w' := by
  refine ⟨hC, ?_, ?_, by simp [h.lsize], fun i' j hu hw => ?_, fun t' hn => ?_, fun k o' t' hk ht' hl => ?_⟩
  · unfold Act.put; split <;> exact h.defers
  · unfold Act.put; split <;> simp [h.size]
  · by_cases e : i' = i
    · subst e; exact up_keep (up_dep hr hw)
    · exact up_keep (h.closed i' j (up_set hu e) hw)
  · rw [← h.old t' hn]
    cases ht : o.dst with
    | none => rfl
    | some t =>
      have hne : t ≠ t' := fun e => hn i o ho (e ▸ ht)
      show (a.tmps.setIfInBounds t v).getD t' undef = _
      rw [Array.getD_eq_getD_getElem?, Array.getElem?_setIfInBounds_ne hne, ← Array.getD_eq_getD_getElem?]
  · by_cases hki : k = i
    · subst hki
      obtain rfl : o = o' := by rw [ho] at hk; exact Option.some.inj hk
      rw [ht']
      show S _ _ ((a.tmps.setIfInBounds t' v).getD t' undef) w'
      rw [Array.getD_eq_getD_getElem?, Array.getElem?_setIfInBounds_self_of_lt (by rw [h.size]; exact hlt _ ht')]
      exact hv _ ht'
    · have h2 := hS k _ hki (up_set hl hki) (h.got k o' t' hk ht' (up_set hl hki))
      cases ht : o.dst with
      | none => exact h2
      | some t =>
        have hne : t ≠ t' := fun e => hki (dstOnce_spec hd k i o' o t' hk ho ht' (e ▸ ht))
        show S _ _ ((a.tmps.setIfInBounds t v).getD t' undef) w'
        rw [Array.getD_eq_getD_getElem?, Array.getElem?_setIfInBounds_ne hne, ← Array.getD_eq_getD_getElem?]
        exact h2
/-- The state written out. -/
theorem GJ.opened (h : GJ ops S C a0 listed a w) (D : List Nat) (hD : dstIn ops D a0.tmps.size = true) : ∃ f : Nat → Value, a = ⟨D.foldl (fun y d => y.setIfInBounds d (f d)) a0.tmps, a0.defers⟩ ∧ C listed f w ∧
    ∀ (k : Nat) (o : Oper) (t : Nat), ops[k]? = some o → o.dst = some t → up listed k → S listed k (f t) w := by
  refine ⟨fun t => a.tmps.getD t undef, ?_, h.com, h.got⟩
  have := array_of_old undef D a.tmps a0.tmps h.size (fun t ht => h.old t (fun k o ho e => ht (dstIn_spec hD ho e).1))
  obtain ⟨tm, d⟩ := a
  have hd := h.defers
  simp only at this hd ⊢
  rw [← this, hd]
theorem GJ.opIn {F : Fence} {n : Nat} {P : Program} {Q : Exit → Act → World → Prop} {i : Nat} {o : Oper} (h : GJ ops S C a0 listed a w) (hd : dstOnce ops = true) (hr : i ∈ Region.ready .any ops listed) (ho : ops[i]? = some o) (D : List Nat) (hD : dstIn ops D a0.tmps.size = true)
    (hrun : ∀ K : Act → World → Prop, (∀ v w', (∀ k v, k ≠ i → up listed k → S listed k v w → S (listed.setIfInBounds i true) k v w') → (∀ t, o.dst = some t → S (listed.setIfInBounds i true) i v w') →
      C (listed.setIfInBounds i true) (fun t => (a.put o.dst v).tmps.getD t undef) w' → K (a.put o.dst v) w') →
      if Region.wanted o (yielded ops a.tmps) = true then o.wpIn F n P a w K Q else (∀ f, o.about P w a.eval = some f → F.fn f) ∧ K (a.put o.dst undef) w) :
    OpIn F n P ops Q i (GJ ops S C a0 (listed.setIfInBounds i true)) a w := by
  have hk := hrun (GJ ops S C a0 (listed.setIfInBounds i true)) (fun v w' h1 h2 h3 => h.step hd hr ho (fun _ ht => (dstIn_spec hD ho ht).2) h1 h2 h3)
  refine ⟨?_⟩
  unfold wpOpIn
  simp only [ho]
  by_cases hw : Region.wanted o (yielded ops a.tmps) = true
  · rw [if_pos hw] at hk
    rw [if_pos hw]
    exact hk
  · rw [if_neg hw] at hk
    rw [if_neg hw]
    exact hk
theorem wanted_of {o oj : Oper} {tm : Array Value} {j tj : Nat} {b c : Bool} (hg : o.guard = some (j, b)) (hj : ops[j]? = some oj) (htj : oj.dst = some tj) (hv : tm.getD tj undef = .bool c) : Region.wanted o (yielded ops tm) = (c == b) := by
  have hlt : tj < tm.size := by
    rcases Nat.lt_or_ge tj tm.size with h | h
    · exact h
    · rw [Array.getD_eq_getD_getElem?, Array.getElem?_eq_none h] at hv; cases hv
  have h2 : tm[tj]? = some (.bool c) := by
    rw [Array.getD_eq_getD_getElem?, Array.getElem?_eq_getElem hlt] at hv
    rw [Array.getElem?_eq_getElem hlt]
    exact congrArg some hv
  unfold Region.wanted
  rw [hg]
  simp only [yielded, hj, Option.bind_some, htj, h2]
  cases c <;> cases b <;> rfl
/-- A guarded operation that is wanted. -/
theorem GJ.opYes {F : Fence} {n : Nat} {P : Program} {Q : Exit → Act → World → Prop} {i j tj : Nat} {b c : Bool} {o oj : Oper} (h : GJ ops S C a0 listed a w) (hd : dstOnce ops = true) (hr : i ∈ Region.ready .any ops listed) (ho : ops[i]? = some o) (D : List Nat) (hD : dstIn ops D a0.tmps.size = true)
    (hg : o.guard = some (j, b)) (hj : ops[j]? = some oj) (htj : oj.dst = some tj) (hv : a.tmps.getD tj undef = .bool c) (hcb : (c == b) = true)
    (hrun : ∀ K : Act → World → Prop, (∀ v w', (∀ k v, k ≠ i → up listed k → S listed k v w → S (listed.setIfInBounds i true) k v w') → (∀ t, o.dst = some t → S (listed.setIfInBounds i true) i v w') →
      C (listed.setIfInBounds i true) (fun t => (a.put o.dst v).tmps.getD t undef) w' → K (a.put o.dst v) w') → o.wpIn F n P a w K Q) :
    OpIn F n P ops Q i (GJ ops S C a0 (listed.setIfInBounds i true)) a w := by
  refine h.opIn hd hr ho D hD (fun K hK => ?_)
  rw [wanted_of hg hj htj hv, if_pos hcb]
  exact hrun K hK
/-- A guarded operation that is not wanted. -/
theorem GJ.opNo {F : Fence} {n : Nat} {P : Program} {Q : Exit → Act → World → Prop} {i j tj : Nat} {b c : Bool} {o oj : Oper} (h : GJ ops S C a0 listed a w) (hd : dstOnce ops = true) (hr : i ∈ Region.ready .any ops listed) (ho : ops[i]? = some o) (D : List Nat) (hD : dstIn ops D a0.tmps.size = true)
    (hg : o.guard = some (j, b)) (hj : ops[j]? = some oj) (htj : oj.dst = some tj) (hv : a.tmps.getD tj undef = .bool c) (hcb : (c == b) = false) (hab : ∀ f, o.about P w a.eval = some f → F.fn f)
    (hS : ∀ k v, k ≠ i → up listed k → S listed k v w → S (listed.setIfInBounds i true) k v w) (hv' : ∀ t, o.dst = some t → S (listed.setIfInBounds i true) i undef w)
    (hC : C (listed.setIfInBounds i true) (fun t => (a.put o.dst undef).tmps.getD t undef) w) :
    OpIn F n P ops Q i (GJ ops S C a0 (listed.setIfInBounds i true)) a w := by
  refine h.opIn hd hr ho D hD (fun K hK => ?_)
  rw [wanted_of hg hj htj hv, if_neg (by rw [hcb]; simp)]
  exact ⟨hab, hK _ _ hS hv' hC⟩
theorem GJ.op {P : Program} {Q : Exit → Act → World → Prop} {i : Nat} {o : Oper} (h : GJ ops S C a0 listed a w) (hd : dstOnce ops = true) (hr : i ∈ Region.ready .any ops listed) (ho : ops[i]? = some o) (D : List Nat) (hD : dstIn ops D a0.tmps.size = true)
    (hrun : ∀ K : Act → World → Prop, (∀ v w', (∀ k v, k ≠ i → up listed k → S listed k v w → S (listed.setIfInBounds i true) k v w') → (∀ t, o.dst = some t → S (listed.setIfInBounds i true) i v w') →
      C (listed.setIfInBounds i true) (fun t => (a.put o.dst v).tmps.getD t undef) w' → K (a.put o.dst v) w') →
      if Region.wanted o (yielded ops a.tmps) = true then o.wp P a w K Q else K (a.put o.dst undef) w) :
    OpOut P ops Q i (GJ ops S C a0 (listed.setIfInBounds i true)) a w := by
  have hk := hrun (GJ ops S C a0 (listed.setIfInBounds i true)) (fun v w' h1 h2 h3 => h.step hd hr ho (fun _ ht => (dstIn_spec hD ho ht).2) h1 h2 h3)
  refine ⟨?_⟩
  unfold wpOp
  simp only [ho]
  by_cases hw : Region.wanted o (yielded ops a.tmps) = true
  · rw [if_pos hw] at hk
    rw [if_pos hw]
    exact .inl hk
  · rw [if_neg hw] at hk
    rw [if_neg hw]
    exact hk
end
end Go.Proofs.YtpaoeeamlinaaaaGreatDoor

namespace Go.Proofs.YtpaoeeamlinaaaaGreatDoor
open Go.RowKit

set_option maxRecDepth 100000 in
set_option maxHeartbeats 2000000 in
theorem equalS_c (w : World) (va vb : Value) (a b : List Stp) (h : SlS w va a) (k : SlS w vb b) : Calls Tryz.prog 31 #[va, vb] w (RetB w (decide (a = b))) := by
  obtain ⟨p, c, rfl, h1, h2, _⟩ := h.2.shape
  obtain ⟨q, d, rfl, k1, k2, _⟩ := k.2.shape
  have H := Lib.hid h
  have K := Lib.hid k
  clear h k
  by_cases hl : a.length = b.length
  · have hn : ((a.length : Int) != (b.length : Int)) = false := by rw [bne_eq_false_iff_eq]; omega
    have HL := Lib.hid hl
    have hdf := Lib.hid (eq_or_differ stp0 a b hl)
    clear hl
    go_enter Tryz.func31, Tryz.ntmps31
    go_wp2_with fail
    go_loopg [13] a.length (fun g t wx => ∃ i : Nat, i ≤ a.length ∧ g = a.length - i ∧ t = .int .i64 (i : Int) ∧ Hid (∀ j, j < i → a.getD j stp0 = b.getD j stp0) ∧ Hid (Below w.heap.size w wx))
    case atStart => exact ⟨0, Nat.zero_le _, rfl, rfl, fun j hj => absurd hj (by omega), Below.refl _ _⟩
    case round =>
      obtain ⟨i, hi, rfl, rfl, heq, hbl⟩ := hrel
      by_cases hlt : i < a.length
      · obtain ⟨ba, oa, ca, ea, _, _, la, hca⟩ := (H.out.2.after hbl.out).at_ (by omega)
        obtain ⟨bb, ob, cb, eb, _, _, lb, hcb⟩ := (K.out.2.after hbl.out).at_ (by have := HL.out; omega)
        injection ea with ea _ ec
        injection eb with eb _ ed
        subst ea eb ec ed
        have hib : i < b.length := by have := HL.out; omega
        have x0 : wr.cell? ⟨ba, oa + i * 4, none⟩ = some (.int .u8 ((a.getD i stp0).kind : Int)) := hca i hlt 0 (by omega)
        have x1 : wr.cell? ⟨ba, oa + i * 4 + 1, none⟩ = some (.int .i64 (a.getD i stp0).host) := hca i hlt 1 (by omega)
        have x2 : wr.cell? ⟨ba, oa + i * 4 + 2, none⟩ = some (.int .i64 (a.getD i stp0).srv) := hca i hlt 2 (by omega)
        have x3 : wr.cell? ⟨ba, oa + i * 4 + 3, none⟩ = some (.int .i64 (a.getD i stp0).ver) := hca i hlt 3 (by omega)
        have y0 : wr.cell? ⟨bb, ob + i * 4, none⟩ = some (.int .u8 ((b.getD i stp0).kind : Int)) := hcb i hib 0 (by omega)
        have y1 : wr.cell? ⟨bb, ob + i * 4 + 1, none⟩ = some (.int .i64 (b.getD i stp0).host) := hcb i hib 1 (by omega)
        have y2 : wr.cell? ⟨bb, ob + i * 4 + 2, none⟩ = some (.int .i64 (b.getD i stp0).srv) := hcb i hib 2 (by omega)
        have y3 : wr.cell? ⟨bb, ob + i * 4 + 3, none⟩ = some (.int .i64 (b.getD i stp0).ver) := hcb i hib 3 (by omega)
        clear hca hcb
        have il : (i : Int) < (a.length : Int) := by omega
        have il2 : (i : Int) < (b.length : Int) := by omega
        have i0 : (0 : Int) ≤ (i : Int) := by omega
        by_cases he : a.getD i stp0 = b.getD i stp0
        · obtain ⟨s, hs⟩ : ∃ s, a.getD i stp0 = s := ⟨_, rfl⟩
          rw [hs] at x0 x1 x2 x3 he
          rw [← he] at y0 y1 y2 y3
          have HS := Lib.hid hs
          have HE := Lib.hid he
          clear hs he
          go_wp2_with fail
          go_quiet (fail)
          go_wp2_with fail
          go_roundg (a.length - (i + 1))
          case measure => omega
          case rel =>
            refine ⟨i + 1, by omega, rfl, by go_num, fun j hj => ?_, hbl.out.trans (below_drewN _ _ _)⟩
            rcases Nat.lt_or_ge j i with h | h
            · exact heq.out j h
            · obtain rfl : j = i := by omega
              exact HS.out.trans HE.out
        · have HE : Hid (decide (a = b) = false) := decide_eq_false (fun e => he (by rw [e]))
          obtain ⟨s, hs⟩ : ∃ s, a.getD i stp0 = s := ⟨_, rfl⟩
          obtain ⟨s', hs'⟩ : ∃ s, b.getD i stp0 = s := ⟨_, rfl⟩
          rw [hs] at x0 x1 x2 x3 he
          rw [hs'] at y0 y1 y2 y3 he
          clear hs hs' heq hdf
          obtain ⟨k1', p1, q1, v1⟩ := s
          obtain ⟨k2', p2, q2, v2⟩ := s'
          simp only at x0 x1 x2 x3 y0 y1 y2 y3
          have hc : (k1' ≠ k2') ∨ (k1' = k2' ∧ p1 ≠ p2) ∨ (k1' = k2' ∧ p1 = p2 ∧ q1 ≠ q2) ∨ (k1' = k2' ∧ p1 = p2 ∧ q1 = q2 ∧ v1 ≠ v2) := by
            by_cases e1 : k1' = k2'
            · by_cases e2 : p1 = p2
              · by_cases e3 : q1 = q2
                · by_cases e4 : v1 = v2
                  · exact absurd (by rw [e1, e2, e3, e4]) he
                  · exact .inr (.inr (.inr ⟨e1, e2, e3, e4⟩))
                · exact .inr (.inr (.inl ⟨e1, e2, e3⟩))
              · exact .inr (.inl ⟨e1, e2⟩)
            · exact .inl e1
          clear he
          rcases hc with e1 | ⟨rfl, e2⟩ | ⟨rfl, rfl, e3⟩ | ⟨rfl, rfl, rfl, e4⟩
          · have n1 : ((k1' : Int) == (k2' : Int)) = false := beq_eq_false_iff_ne.2 (by omega)
            have n2 : (k1' == k2') = false := beq_eq_false_iff_ne.2 e1
            clear e1
            go_wp2_with fail
            go_quiet (fail)
            go_wp2_with fail
            go_ret
            rw [HE.out]
            exact ⟨rfl, hbl.out.trans (below_drewN _ _ _)⟩
          · have n1 : (p1 == p2) = false := beq_eq_false_iff_ne.2 e2
            clear e2
            go_wp2_with fail
            go_quiet (fail)
            go_wp2_with fail
            go_ret
            rw [HE.out]
            exact ⟨rfl, hbl.out.trans (below_drewN _ _ _)⟩
          · have n1 : (q1 == q2) = false := beq_eq_false_iff_ne.2 e3
            clear e3
            go_wp2_with fail
            go_quiet (fail)
            go_wp2_with fail
            go_ret
            rw [HE.out]
            exact ⟨rfl, hbl.out.trans (below_drewN _ _ _)⟩
          · have n1 : (v1 == v2) = false := beq_eq_false_iff_ne.2 e4
            clear e4
            go_wp2_with fail
            go_quiet (fail)
            go_wp2_with fail
            go_ret
            rw [HE.out]
            exact ⟨rfl, hbl.out.trans (below_drewN _ _ _)⟩
      · obtain rfl : i = a.length := by omega
        have HE : Hid (decide (a = b) = true) := by
          refine decide_eq_true ?_
          rcases hdf.out with h | ⟨j, h1, h2, _⟩
          · exact h
          · exact absurd (heq.out j h1) h2
        go_wp2_with fail
        go_ret
        rw [HE.out]
        exact ⟨rfl, hbl.out⟩
  · have hn : ((a.length : Int) != (b.length : Int)) = true := by rw [bne_iff_ne]; omega
    have HE : Hid (decide (a = b) = false) := decide_eq_false (fun e => hl (by rw [e]))
    clear hl
    go_enter Tryz.func31, Tryz.ntmps31
    go_wp2_with fail
    go_ret
    rw [HE.out]
    exact ⟨rfl, Below.refl _ _⟩

set_option maxRecDepth 100000 in
set_option maxHeartbeats 2000000 in
theorem equalI_c (w : World) (va vb : Value) (a b : List Int) (h : SlI w va a) (k : SlI w vb b) : Calls Tryz.prog 33 #[va, vb] w (RetB w (decide (a = b))) := by
  obtain ⟨p, c, rfl, h1, h2, _⟩ := h.2.shape
  obtain ⟨q, d, rfl, k1, k2, _⟩ := k.2.shape
  have H := Lib.hid h
  have K := Lib.hid k
  clear h k
  by_cases hl : a.length = b.length
  · have hn : ((a.length : Int) != (b.length : Int)) = false := by rw [bne_eq_false_iff_eq]; omega
    have HL := Lib.hid hl
    have hdf := Lib.hid (eq_or_differ 0 a b hl)
    clear hl
    go_enter Tryz.func33, Tryz.ntmps33
    go_wp2_with fail
    go_loopg [13] a.length (fun g t wx => ∃ i : Nat, i ≤ a.length ∧ g = a.length - i ∧ t = .int .i64 (i : Int) ∧ Hid (∀ j, j < i → a.getD j 0 = b.getD j 0) ∧ Hid (Below w.heap.size w wx))
    case atStart => exact ⟨0, Nat.zero_le _, rfl, rfl, fun j hj => absurd hj (by omega), Below.refl _ _⟩
    case round =>
      obtain ⟨i, hi, rfl, rfl, heq, hbl⟩ := hrel
      by_cases hlt : i < a.length
      · obtain ⟨ba, oa, ca, ea, _, _, la, hca⟩ := (H.out.2.after hbl.out).at_ (by omega)
        obtain ⟨bb, ob, cb, eb, _, _, lb, hcb⟩ := (K.out.2.after hbl.out).at_ (by have := HL.out; omega)
        injection ea with ea _ ec
        injection eb with eb _ ed
        subst ea eb ec ed
        have hib : i < b.length := by have := HL.out; omega
        have x0 : wr.cell? ⟨ba, oa + i, none⟩ = some (.int .i64 (a.getD i 0)) := by have := hca i hlt 0 (by omega); simpa using this
        have y0 : wr.cell? ⟨bb, ob + i, none⟩ = some (.int .i64 (b.getD i 0)) := by have := hcb i hib 0 (by omega); simpa using this
        clear hca hcb
        have il : (i : Int) < (a.length : Int) := by omega
        have il2 : (i : Int) < (b.length : Int) := by omega
        have i0 : (0 : Int) ≤ (i : Int) := by omega
        obtain ⟨s, hs⟩ : ∃ s, a.getD i 0 = s := ⟨_, rfl⟩
        obtain ⟨s', hs'⟩ : ∃ s, b.getD i 0 = s := ⟨_, rfl⟩
        have HS := Lib.hid hs
        have HS' := Lib.hid hs'
        rw [hs] at x0
        rw [hs'] at y0
        clear hs hs'
        by_cases he : s = s'
        · subst he
          go_wp2_with fail
          go_quiet (fail)
          go_wp2_with fail
          go_roundg (a.length - (i + 1))
          case measure => omega
          case rel =>
            refine ⟨i + 1, by omega, rfl, by go_num, fun j hj => ?_, hbl.out.trans (below_drewN _ _ _)⟩
            rcases Nat.lt_or_ge j i with h | h
            · exact heq.out j h
            · obtain rfl : j = i := by omega
              exact HS.out.trans HS'.out.symm
        · have HE : Hid (decide (a = b) = false) := decide_eq_false (fun e => he (by rw [← HS.out, ← HS'.out, e]))
          have n1 : (s == s') = false := beq_eq_false_iff_ne.2 he
          have n2 : (s != s') = true := by rw [bne_iff_ne]; exact he
          clear he heq hdf
          go_wp2_with fail
          go_quiet (fail)
          go_wp2_with fail
          go_ret
          rw [HE.out]
          exact ⟨rfl, hbl.out.trans (below_drewN _ _ _)⟩
      · obtain rfl : i = a.length := by omega
        have HE : Hid (decide (a = b) = true) := by
          refine decide_eq_true ?_
          rcases hdf.out with h | ⟨j, h1, h2, _⟩
          · exact h
          · exact absurd (heq.out j h1) h2
        go_wp2_with fail
        go_ret
        rw [HE.out]
        exact ⟨rfl, hbl.out⟩
  · have hn : ((a.length : Int) != (b.length : Int)) = true := by rw [bne_iff_ne]; omega
    have HE : Hid (decide (a = b) = false) := decide_eq_false (fun e => hl (by rw [e]))
    clear hl
    go_enter Tryz.func33, Tryz.ntmps33
    go_wp2_with fail
    go_ret
    rw [HE.out]
    exact ⟨rfl, Below.refl _ _⟩

set_option maxRecDepth 100000 in
set_option maxHeartbeats 2000000 in
theorem equalL_c (w : World) (va vb : Value) (a b : List (List Int)) (h : SlL w va a) (k : SlL w vb b) :
    Calls Tryz.prog 32 #[va, vb, .func (.func 33) #[] #[]] w (RetB w (decide (a = b))) := by
  obtain ⟨ua, hA, hA2⟩ := h
  obtain ⟨ub, hB, hB2⟩ := k
  obtain ⟨p, c, rfl, h1, h2, _⟩ := hA.shape
  obtain ⟨q, d, rfl, k1, k2, _⟩ := hB.shape
  have H := Lib.hid hA
  have K := Lib.hid hB
  have H2 := Lib.hid hA2
  have K2 := Lib.hid hB2
  clear hA hA2 hB hB2
  by_cases hl : a.length = b.length
  · have hn : ((a.length : Int) != (b.length : Int)) = false := by rw [bne_eq_false_iff_eq]; omega
    have HL := Lib.hid hl
    have hdf := Lib.hid (eq_or_differ [] a b hl)
    clear hl
    go_enter Tryz.func32, Tryz.ntmps32
    go_wp2_with fail
    go_loopg [17] a.length (fun g t wx => ∃ i : Nat, i ≤ a.length ∧ g = a.length - i ∧ t = .int .i64 (i : Int) ∧ Hid (∀ j, j < i → a.getD j [] = b.getD j []) ∧ Hid (Below w.heap.size w wx))
    case atStart => exact ⟨0, Nat.zero_le _, rfl, rfl, fun j hj => absurd hj (by omega), Below.refl _ _⟩
    case round =>
      obtain ⟨i, hi, rfl, rfl, heq, hbl⟩ := hrel
      by_cases hlt : i < a.length
      · obtain ⟨ba, oa, ca, ea, _, _, la, hca⟩ := (H.out.after hbl.out).at_ (by omega)
        obtain ⟨bb, ob, cb, eb, _, _, lb, hcb⟩ := (K.out.after hbl.out).at_ (by have := HL.out; omega)
        injection ea with ea _ ec
        injection eb with eb _ ed
        subst ea eb ec ed
        have hib : i < b.length := by have := HL.out; omega
        have x0 : wr.cell? ⟨ba, oa + i, none⟩ = some (ua i) := by have := hca i hlt 0 (by omega); simpa using this
        have y0 : wr.cell? ⟨bb, ob + i, none⟩ = some (ub i) := by have := hcb i hib 0 (by omega); simpa using this
        have HX := Lib.hid ((H2.out i hlt).after hbl.out)
        have HY := Lib.hid ((K2.out i hib).after hbl.out)
        clear hca hcb
        have il : (i : Int) < (a.length : Int) := by omega
        have il2 : (i : Int) < (b.length : Int) := by omega
        have i0 : (0 : Int) ≤ (i : Int) := by omega
        go_wp2_with fail
        refine (equalI_c _ _ _ _ _ HX.out HY.out).mono ?_
        rintro e w1 ⟨rfl, hb1⟩
        replace hbl := Lib.hid (hbl.out.trans (hb1.mono hbl.out.size))
        clear hb1 x0 y0
        by_cases he : a.getD i [] = b.getD i []
        · have hd : decide (a.getD i [] = b.getD i []) = true := decide_eq_true he
          have HE := Lib.hid he
          rw [hd]
          clear he hd
          go_wp2_with fail
          go_roundg (a.length - (i + 1))
          case measure => omega
          case rel =>
            refine ⟨i + 1, by omega, rfl, by go_num, fun j hj => ?_, hbl.out⟩
            rcases Nat.lt_or_ge j i with h | h
            · exact heq.out j h
            · obtain rfl : j = i := by omega
              exact HE.out
        · have HE : Hid (decide (a = b) = false) := decide_eq_false (fun e => he (by rw [e]))
          have hd : decide (a.getD i [] = b.getD i []) = false := decide_eq_false he
          rw [hd]
          clear he hd heq hdf
          go_wp2_with fail
          go_ret
          rw [HE.out]
          exact ⟨rfl, hbl.out⟩
      · obtain rfl : i = a.length := by omega
        have HE : Hid (decide (a = b) = true) := by
          refine decide_eq_true ?_
          rcases hdf.out with h | ⟨j, h1, h2, _⟩
          · exact h
          · exact absurd (heq.out j h1) h2
        go_wp2_with fail
        go_ret
        rw [HE.out]
        exact ⟨rfl, hbl.out⟩
  · have hn : ((a.length : Int) != (b.length : Int)) = true := by rw [bne_iff_ne]; omega
    have HE : Hid (decide (a = b) = false) := decide_eq_false (fun e => hl (by rw [e]))
    clear hl
    go_enter Tryz.func32, Tryz.ntmps32
    go_wp2_with fail
    go_ret
    rw [HE.out]
    exact ⟨rfl, Below.refl _ _⟩
end Go.Proofs.YtpaoeeamlinaaaaGreatDoor
