/- Syntax: drawn regions by an invariant; a region whose last operations come in their order.
   Walks of package syntax: scopes. -/
import Derived.Test.YtganlldidjbpiaaGreatDoorK01
import Derived.Test.YtganlldidjbpiaaGreatDoorK07
set_option linter.unusedVariables false
namespace Go.Proofs.YtganlldidjbpiaaGreatDoor
open Go.RowKit Go.Shelf

/-- The state of such a region: before operation n by J; from there on what is left is walked in order. -/
def TailJ (P : Program) (ops : Array Oper) (Q : Exit → Act → World → Prop) (n : Nat) (J : Array Bool → Act → World → Prop) (listed : Array Bool) (a : Act) (w : World) : Prop :=
  listed.size = ops.size ∧ (((∀ k, n ≤ k → ¬ up listed k) ∧ J listed a w) ∨ ∃ i, n < i ∧ i ≤ ops.size ∧ (∀ k, k < ops.size → (up listed k ↔ k < i)) ∧ wpOps P ops Q (List.range' i (ops.size - i)) a w)
/-- Operation i waits for operation j, through others too. -/
def reach (ops : Array Oper) : Nat → Nat → Nat → Bool
  | 0, _, _ => false
  | f + 1, i, j => waitsOn ops i j || (List.range i).any fun m => waitsOn ops i m && reach ops f m j
theorem reach_of_up {ops : Array Oper} {listed : Array Bool} (hc : ∀ i j, up listed i → waitsOn ops i j = true → up listed j) : ∀ (f i j : Nat), up listed i → reach ops f i j = true → up listed j
  | 0, _, _, _, h => by cases h
  | f + 1, i, j, hi, h => by
    unfold reach at h
    rw [Bool.or_eq_true] at h
    rcases h with h | h
    · exact hc i j hi h
    · obtain ⟨m, _, hm⟩ := List.any_eq_true.1 h
      rw [Bool.and_eq_true] at hm
      exact reach_of_up hc f m j (hc i m hi hm.1) hm.2
theorem reach_ready {ops : Array Oper} {listed : Array Bool} (hc : ∀ i j, up listed i → waitsOn ops i j = true → up listed j) {n : Nat} (hr : n ∈ Region.ready .any ops listed) {f j : Nat} (h : reach ops (f + 1) n j = true) : up listed j := by
  unfold reach at h
  rw [Bool.or_eq_true] at h
  rcases h with h | h
  · exact up_dep hr h
  · obtain ⟨m, _, hm⟩ := List.any_eq_true.1 h
    rw [Bool.and_eq_true] at hm
    exact reach_of_up hc f m j (up_dep hr hm.1) hm.2
/-- From operation n on each one waits for the one before it; n waits for all before it, through others too. -/
def tailR (ops : Array Oper) (n : Nat) : Bool := (List.range n).all (fun j => reach ops (n + 1) n j) && (List.range ops.size).all fun k => decide (k ≤ n) || waitsOn ops k (k - 1)
theorem wp_gj_tail {P : Program} {ops : Array Oper} {Q : Exit → Act → World → Prop} {S : Array Bool → Nat → Value → World → Prop} {C : Array Bool → (Nat → Value) → World → Prop} {id : Nat} {a : Act} {w : World} (n : Nat) (hm : P.follows .mixedOrders = true) (hn : n < ops.size) (hb : backward ops = true) (ht : tailR ops n = true)
    (hstep : ∀ listed a' w i, i < n → i ∈ Region.ready .any ops listed → GJ ops S C a listed a' w → OpOut P ops Q i (GJ ops S C a (listed.setIfInBounds i true)) a' w)
    (hend : ∀ listed a' w, (∀ k, k < n → up listed k) → GJ ops S C a listed a' w → wpList P ops Q (ops.toList.drop n) a' w)
    (h0 : GJ ops S C a (Array.replicate ops.size false) a w.drew) : (Code.region id ops true).wp P Q a w := by
  unfold tailR at ht
  rw [Bool.and_eq_true, List.all_eq_true, List.all_eq_true] at ht
  have tnext : ∀ k, k < ops.size → n < k → waitsOn ops k (k - 1) = true := by
    intro k hk hnk
    have := ht.2 k (List.mem_range.2 hk)
    rw [Bool.or_eq_true] at this
    rcases this with h1 | h1
    · have := of_decide_eq_true h1; omega
    · exact h1
  refine wp_region_inv (J := TailJ P ops Q n (GJ ops S C a)) hm ?_ ?_ ⟨by simp, .inl ⟨fun k _ => up_none _ _, h0⟩⟩
  · intro listed a w i hr ⟨hs, hj⟩
    obtain ⟨hi, hun, _⟩ := ready_mem hr
    have hnu : ¬ up listed i := not_up hun
    have next : ∀ k, k < ops.size → (∀ m, m < ops.size → (up listed m ↔ m < k)) → i = k → ∀ m, m < ops.size → (up (listed.setIfInBounds i true) m ↔ m < k + 1) := by
      intro k hk hu hik m hm
      subst hik
      by_cases e : m = i
      · subst e
        exact ⟨fun _ => by omega, fun _ => up_self (by omega)⟩
      · exact ⟨fun h => by have := (hu m hm).1 (up_set h e); omega, fun h => up_keep ((hu m hm).2 (by omega))⟩
    have walk : ∀ k, k < ops.size → wpOps P ops Q (List.range' k (ops.size - k)) a w → wpOp P ops Q k (wpOps P ops Q (List.range' (k + 1) (ops.size - (k + 1)))) a w := by
      intro k hk hw
      rw [show ops.size - k = (ops.size - (k + 1)) + 1 by omega, List.range'_succ, wpOps_cons] at hw
      exact hw
    rcases hj with ⟨hlow, hj⟩ | ⟨k, hk, hks, hu, hw⟩
    · rcases Nat.lt_trichotomy i n with h | h | h
      · refine wpOp_mono (fun a w hj' => ⟨by simp [hs], .inl ⟨fun k hk hu => ?_, hj'⟩⟩) (hstep listed a w i h hr hj).out
        exact hlow k hk (up_set hu (by omega))
      · subst h
        have hall : ∀ j, j < i → up listed j := fun j hj' => reach_ready hj.closed hr (ht.1 j (List.mem_range.2 hj'))
        have hl := hend listed a w hall hj
        have he : wpOps P ops Q (List.range' i (ops.size - i)) a w := by
          have := wpOps_eq_wpList (P := P) (ops := ops) (Q := Q) (ops.toList.drop i) i (fun j => by rw [List.getElem?_drop, Array.getElem?_toList])
          rw [List.length_drop, Array.length_toList] at this
          rw [this]; exact hl
        have hu : ∀ m, m < ops.size → (up listed m ↔ m < i) := fun m hm => ⟨fun h => by
          rcases Nat.lt_or_ge m i with h1 | h1
          · exact h1
          · exact absurd h (hlow m h1), fun h => hall m h⟩
        refine wpOp_mono (fun a w hw' => ⟨by simp [hs], .inr ⟨i + 1, by omega, by omega, next i hi hu rfl, hw'⟩⟩) (walk i hi he)
      · exact absurd (up_dep hr (tnext i hi h)) (hlow _ (by omega))
    · have hik : i = k := by
        have h1 : ¬ i < k := fun h => hnu ((hu i hi).2 h)
        rcases Nat.lt_or_ge k i with h2 | h2
        · have h3 := up_dep hr (tnext i hi (by omega))
          have := (hu (i - 1) (by omega)).1 h3
          omega
        · omega
      subst hik
      exact wpOp_mono (fun a w hw' => ⟨by simp [hs], .inr ⟨i + 1, by omega, by omega, next i hi hu rfl, hw'⟩⟩) (walk i hi hw)
  · intro listed a w hr ⟨hs, hj⟩
    have hall : ∀ k, k < ops.size → up listed k := fun k hk => all_up hb hs hr k hk
    rcases hj with ⟨hlow, _⟩ | ⟨k, hk, hks, hu, hw⟩
    · exact absurd (hall n hn) (hlow n (Nat.le_refl _))
    · have : k = ops.size := by
        rcases Nat.lt_or_ge k ops.size with h | h
        · have := (hu k h).1 (hall k h); omega
        · omega
      subst this
      rw [Nat.sub_self] at hw
      exact hw
/-- Every operation from n on waits for all before n, through others too. -/
def allPre (ops : Array Oper) (n : Nat) : Bool := (List.range ops.size).all fun i => decide (i < n) || (List.range n).all fun j => reach ops (i + 1) i j
/-- A region in two parts: the operations before n by one invariant; those from n on by another one, which is told when the first part is done. -/
theorem wp_gj_two {P : Program} {ops : Array Oper} {Q : Exit → Act → World → Prop} {S : Array Bool → Nat → Value → World → Prop} {C : Array Bool → (Nat → Value) → World → Prop} {id : Nat} {a : Act} {w : World} (n : Nat) (hm : P.follows .mixedOrders = true) (hn : n < ops.size) (hb : backward ops = true) (ht : allPre ops n = true)
    (hstep : ∀ listed a' w i, i < n → i ∈ Region.ready .any ops listed → GJ ops S C a listed a' w → OpOut P ops Q i (GJ ops S C a (listed.setIfInBounds i true)) a' w)
    (hmid : ∀ listed a' w, (∀ k, k < n → up listed k) → (∀ k, n ≤ k → ¬ up listed k) → GJ ops S C a listed a' w → ∃ S2 C2, GJ ops S2 C2 a listed a' w ∧
      (∀ listed a' w i, n ≤ i → (∀ k, k < n → up listed k) → i ∈ Region.ready .any ops listed → GJ ops S2 C2 a listed a' w → OpOut P ops Q i (GJ ops S2 C2 a (listed.setIfInBounds i true)) a' w) ∧
      ∀ listed a' w, (∀ k, k < ops.size → up listed k) → GJ ops S2 C2 a listed a' w → Q .normal a' w)
    (h0 : GJ ops S C a (Array.replicate ops.size false) a w.drew) : (Code.region id ops true).wp P Q a w := by
  unfold allPre at ht
  rw [List.all_eq_true] at ht
  have hpre : ∀ i, i < ops.size → n ≤ i → ∀ j, j < n → reach ops (i + 1) i j = true := by
    intro i hi hni j hj
    have := ht i (List.mem_range.2 hi)
    rw [Bool.or_eq_true] at this
    rcases this with h1 | h1
    · have := of_decide_eq_true h1; omega
    · exact List.all_eq_true.1 h1 j (List.mem_range.2 hj)
  refine wp_region_inv (J := fun listed a' w => listed.size = ops.size ∧ (((∀ k, n ≤ k → ¬ up listed k) ∧ GJ ops S C a listed a' w) ∨ ((∀ k, k < n → up listed k) ∧ ∃ S2 C2, GJ ops S2 C2 a listed a' w ∧
      (∀ listed a' w i, n ≤ i → (∀ k, k < n → up listed k) → i ∈ Region.ready .any ops listed → GJ ops S2 C2 a listed a' w → OpOut P ops Q i (GJ ops S2 C2 a (listed.setIfInBounds i true)) a' w) ∧
      ∀ listed a' w, (∀ k, k < ops.size → up listed k) → GJ ops S2 C2 a listed a' w → Q .normal a' w))) hm ?_ ?_ ⟨by simp, .inl ⟨fun k _ => up_none _ _, h0⟩⟩
  · intro listed a' w i hr ⟨hs, hj⟩
    obtain ⟨hi, hun, _⟩ := ready_mem hr
    have hnu : ¬ up listed i := not_up hun
    rcases hj with ⟨hlow, hj⟩ | ⟨hall, S2, C2, hj, h2, h3⟩
    · rcases Nat.lt_or_ge i n with h | h
      · refine wpOp_mono (fun a w hj' => ⟨by simp [hs], .inl ⟨fun k hk hu => ?_, hj'⟩⟩) (hstep listed a' w i h hr hj).out
        exact hlow k hk (up_set hu (by omega))
      · have hall : ∀ j, j < n → up listed j := fun j hj' => reach_ready hj.closed hr (hpre i hi h j hj')
        obtain ⟨S2, C2, hj2, h2, h3⟩ := hmid listed a' w hall hlow hj
        exact wpOp_mono (fun a w hj' => ⟨by simp [hs], .inr ⟨fun k hk => up_keep (hall k hk), S2, C2, hj', h2, h3⟩⟩) (h2 listed a' w i h hall hr hj2).out
    · rcases Nat.lt_or_ge i n with h | h
      · exact absurd (hall i h) hnu
      · exact wpOp_mono (fun a w hj' => ⟨by simp [hs], .inr ⟨fun k hk => up_keep (hall k hk), S2, C2, hj', h2, h3⟩⟩) (h2 listed a' w i h hall hr hj).out
  · intro listed a' w hr ⟨hs, hj⟩
    have hall : ∀ k, k < ops.size → up listed k := fun k hk => all_up hb hs hr k hk
    rcases hj with ⟨hlow, _⟩ | ⟨_, S2, C2, hj, _, h3⟩
    · exact absurd (hall n hn) (hlow n (Nat.le_refl _))
    · exact h3 listed a' w hall hj
/-- A guard that is not known: its operation is not wanted. -/
theorem wanted_undef {ops : Array Oper} {o oj : Oper} {tm : Array Value} {j tj : Nat} {b : Bool} (hg : o.guard = some (j, b)) (hj : ops[j]? = some oj) (htj : oj.dst = some tj) (hv : tm.getD tj undef = undef) : Region.wanted o (yielded ops tm) = false := by
  unfold Region.wanted
  rw [hg]
  simp only [yielded, hj, Option.bind_some, htj]
  rcases h : tm[tj]? with _ | v
  · rfl
  · rw [Array.getD_eq_getD_getElem?, h] at hv
    have hv : v = undef := hv
    rw [hv]
    rfl
section
variable {ops : Array Oper} {S : Array Bool → Nat → Value → World → Prop} {C : Array Bool → (Nat → Value) → World → Prop} {a0 a : Act} {listed : Array Bool} {w w' : World}
theorem GJ.yes {P : Program} {Q : Exit → Act → World → Prop} {i j tj : Nat} {b c : Bool} {o oj : Oper} (h : GJ ops S C a0 listed a w) (hd : dstOnce ops = true) (hr : i ∈ Region.ready .any ops listed) (ho : ops[i]? = some o) (D : List Nat) (hD : dstIn ops D a0.tmps.size = true)
    (hg : o.guard = some (j, b)) (hj : ops[j]? = some oj) (htj : oj.dst = some tj) (hv : a.tmps.getD tj undef = .bool c) (hcb : (c == b) = true)
    (hrun : ∀ K : Act → World → Prop, (∀ v w', (∀ k v, k ≠ i → up listed k → S listed k v w → S (listed.setIfInBounds i true) k v w') → (∀ t, o.dst = some t → S (listed.setIfInBounds i true) i v w') →
      C (listed.setIfInBounds i true) (fun t => (a.put o.dst v).tmps.getD t undef) w' → K (a.put o.dst v) w') → o.wp P a w K Q) :
    OpOut P ops Q i (GJ ops S C a0 (listed.setIfInBounds i true)) a w := by
  have hk := hrun (GJ ops S C a0 (listed.setIfInBounds i true)) (fun v w' h1 h2 h3 => h.step hd hr ho (fun _ ht => (dstIn_spec hD ho ht).2) h1 h2 h3)
  refine ⟨?_⟩
  unfold wpOp
  simp only [ho]
  rw [if_pos (by rw [wanted_of hg hj htj hv]; exact hcb)]
  exact .inl hk
theorem GJ.no {P : Program} {Q : Exit → Act → World → Prop} {i j tj : Nat} {b c : Bool} {o oj : Oper} (h : GJ ops S C a0 listed a w) (hd : dstOnce ops = true) (hr : i ∈ Region.ready .any ops listed) (ho : ops[i]? = some o) (D : List Nat) (hD : dstIn ops D a0.tmps.size = true)
    (hg : o.guard = some (j, b)) (hj : ops[j]? = some oj) (htj : oj.dst = some tj) (hv : a.tmps.getD tj undef = .bool c) (hcb : (c == b) = false)
    (hS : ∀ k v, k ≠ i → up listed k → S listed k v w → S (listed.setIfInBounds i true) k v w) (hv' : ∀ t, o.dst = some t → S (listed.setIfInBounds i true) i undef w)
    (hC : C (listed.setIfInBounds i true) (fun t => (a.put o.dst undef).tmps.getD t undef) w) :
    OpOut P ops Q i (GJ ops S C a0 (listed.setIfInBounds i true)) a w := by
  have hk := h.step (v := undef) (w' := w) hd hr ho (fun _ ht => (dstIn_spec hD ho ht).2) hS hv' hC
  refine ⟨?_⟩
  unfold wpOp
  simp only [ho]
  rw [if_neg (by rw [wanted_of hg hj htj hv, hcb]; simp)]
  exact hk
theorem GJ.nou {P : Program} {Q : Exit → Act → World → Prop} {i j tj : Nat} {b : Bool} {o oj : Oper} (h : GJ ops S C a0 listed a w) (hd : dstOnce ops = true) (hr : i ∈ Region.ready .any ops listed) (ho : ops[i]? = some o) (D : List Nat) (hD : dstIn ops D a0.tmps.size = true)
    (hg : o.guard = some (j, b)) (hj : ops[j]? = some oj) (htj : oj.dst = some tj) (hv : a.tmps.getD tj undef = undef)
    (hS : ∀ k v, k ≠ i → up listed k → S listed k v w → S (listed.setIfInBounds i true) k v w) (hv' : ∀ t, o.dst = some t → S (listed.setIfInBounds i true) i undef w)
    (hC : C (listed.setIfInBounds i true) (fun t => (a.put o.dst undef).tmps.getD t undef) w) :
    OpOut P ops Q i (GJ ops S C a0 (listed.setIfInBounds i true)) a w := by
  have hk := h.step (v := undef) (w' := w) hd hr ho (fun _ ht => (dstIn_spec hD ho ht).2) hS hv' hC
  refine ⟨?_⟩
  unfold wpOp
  simp only [ho]
  rw [if_neg (by rw [wanted_undef hg hj htj hv]; simp)]
  exact hk
end
/-- Other words for the same state. -/
theorem GJ.change {ops : Array Oper} {S S2 : Array Bool → Nat → Value → World → Prop} {C C2 : Array Bool → (Nat → Value) → World → Prop} {a0 a : Act} {listed : Array Bool} {w : World} (h : GJ ops S C a0 listed a w) (hC : C2 listed (fun t => a.tmps.getD t undef) w)
    (hS : ∀ (k : Nat) (o : Oper) (t : Nat), ops[k]? = some o → o.dst = some t → up listed k → S2 listed k (a.tmps.getD t undef) w) : GJ ops S2 C2 a0 listed a w :=
  ⟨hC, h.defers, h.size, h.lsize, h.closed, h.old, hS⟩
/-- What an operation yields: a fact that stands where only blocks of S turn. -/
structure KS (S : Nat → Prop) where
  F : Value → World → Prop
  st : ∀ v w w', Fx S w w' → F v w → F v w'
def KS.eq {S : Nat → Prop} (u : Value) : KS S := ⟨fun v _ => v = u, fun _ _ _ _ h => h⟩
def KS.any {S : Nat → Prop} : KS S := ⟨fun _ _ => True, fun _ _ _ _ h => h⟩
def KS.pure {S : Nat → Prop} (P : Value → Prop) : KS S := ⟨fun v _ => P v, fun _ _ _ _ h => h⟩
/-- A new block. -/
def KS.blk {S : Nat → Prop} (B : Nat) (cs : Array Value) (t : TypeId) (hS : ∀ b, S b → b < B) : KS S :=
  ⟨fun v w => ∃ g, B ≤ g ∧ v = .slice (some ⟨g, 0, none⟩) 1 1 ∧ Box w g cs t, fun _ _ _ hf ⟨g, h1, h2, h3⟩ => ⟨g, h1, h2, h3.fx hf (fun e => by have := hS g e; omega)⟩⟩
def KS.cl {S : Nat → Prop} (B : Nat) (P : Cl → Prop) (hS : ∀ b, S b → b < B) : KS S :=
  ⟨fun v w => ∃ c, P c ∧ IsC (fun b => B ≤ b) w v c, fun _ _ _ hf ⟨c, hp, h⟩ => ⟨c, hp, h.fx hf (fun b hb _ e => by have := hS b e; omega)⟩⟩
abbrev SKS {S : Nat → Prop} (K : Nat → KS S) : Array Bool → Nat → Value → World → Prop := fun _ k v w => (K k).F v w
/-- Operation i0 is the call that reads; the others leave the parser as it is. -/
def CP {α : Type} (S : Nat → Prop) (W0 : World) (p : Nat) (en : Int) (i0 : Nat) (ts : List Tok) (x : PR α) (l : Array Bool) (_ : Nat → Value) (w : World) : Prop :=
  Fx S W0 w ∧ (¬ up l i0 → PS w p ts en) ∧ (up l i0 → ∃ a r, x = .ok (a, r) ∧ PS w p r en)
section
variable {α : Type} {S : Nat → Prop} {W0 w w' : World} {p i0 i : Nat} {en : Int} {ts : List Tok} {x : PR α} {l : Array Bool} {f g : Nat → Value}
theorem CP.start {n : Nat} (h : PS W0 p ts en) : CP S W0 p en i0 ts x (Array.replicate n false) f W0.drew := ⟨(Fx.refl S W0).drew, fun _ => h.fx (S := fun _ => False) ((Fx.refl _ W0).drew) (fun _ e => e.elim), fun h => absurd h (up_none _ _)⟩
theorem CP.keep (h : CP S W0 p en i0 ts x l f w) (hi : i0 ≠ i) (hb : Below w.heap.size w w') : CP S W0 p en i0 ts x (l.setIfInBounds i true) g w' := by
  obtain ⟨h1, h2, h3⟩ := h
  refine ⟨h1.below hb, fun u => (h2 (fun u' => u (up_keep u'))).after hb, fun u => ?_⟩
  obtain ⟨a, r, e, hp⟩ := h3 (up_set u hi)
  exact ⟨a, r, e, hp.after hb⟩
theorem CP.put {a : α} {r : List Tok} (h : CP S W0 p en i0 ts x l f w) (hl : i0 < l.size) (hf : Fx S w w') (e : x = .ok (a, r)) (hp : PS w' p r en) : CP S W0 p en i0 ts x (l.setIfInBounds i0 true) g w' :=
  ⟨h.1.trans hf, fun u => absurd (up_self hl) u, fun _ => ⟨a, r, e, hp⟩⟩
end
end Go.Proofs.YtganlldidjbpiaaGreatDoor

namespace Go.Proofs.YtganlldidjbpiaaGreatDoor
open Go.RowKit Go.Shelf

theorem scopeN_lt (s : List UInt8) : scopeN s < 256 := by
  unfold scopeN
  repeat' split
  all_goals omega
theorem scope_pos {t : Tok} (h : scopedT t = true) : 1 ≤ scopeN t.text := by
  unfold scopedT at h
  rw [bne_iff_ne] at h
  omega
theorem scope_ix {x : List UInt8} (h : scopesL.contains x = true) : ∃ i, i = scopeN x - 1 ∧ i < 5 ∧ idxZ scopesL x = (i : Int) := by
  rw [List.contains_iff_mem] at h
  unfold scopesL at h
  simp only [List.mem_cons, List.not_mem_nil, or_false] at h
  rcases h with rfl | rfl | rfl | rfl | rfl
  · exact ⟨0, by decide, by decide, by decide⟩
  · exact ⟨1, by decide, by decide, by decide⟩
  · exact ⟨2, by decide, by decide, by decide⟩
  · exact ⟨3, by decide, by decide, by decide⟩
  · exact ⟨4, by decide, by decide, by decide⟩
theorem scope_idx {t : Tok} (h : scopedT t = true) : ∃ i, i = scopeN t.text - 1 ∧ i < 5 ∧ idxZ scopesL t.text = (i : Int) := by
  unfold scopedT at h
  rw [← scope_yes] at h
  exact scope_ix h
set_option maxRecDepth 100000 in
set_option maxHeartbeats 4000000 in
theorem scope_c (N : Nat) (w : World) (p : Nat) (ts : List Tok) (en : Int) (h : PS w p ts en) (hN : N ≤ w.heap.size) (hNp : N ≤ p) (he : Wds N w) : Calls Tryz.prog 112 #[.pointer (some ⟨p, 0, none⟩)] w (Rd (fun b => b = p) p en w (fun d v _ => v = .int .u8 ((d : Nat) : Int) ∧ d < 256) (scopeP ts)) := by
  obtain ⟨x, hx⟩ : ∃ x, nextP scopedT ts = x := ⟨_, rfl⟩
  obtain ⟨y, hy⟩ : ∃ y, scopeP ts = y := ⟨_, rfl⟩
  rw [hy]
  have HX := Lib.hid hx
  have HY : Hid ((andP x fun t r => .ok (scopeN t.text, r)) = y) := by show _ = _; rw [← hx, ← hy]; rfl
  have HP := Lib.hid h
  have HE := Lib.hid he
  have hpN : ∀ b, b = p → N ≤ b := fun b e => e ▸ hNp
  have hd : ∀ b, b < N → b < w.heap.size → ¬ b = p := fun b hb _ e => by omega
  obtain ⟨vs, g0, gs, hs⟩ := he.2.1
  obtain ⟨vd, g1, gd, hdm⟩ := he.2.2
  have HS := Lib.hid hs
  have hp0 : ¬ 0 = p := by omega
  have hp1 : ¬ 1 = p := by omega
  obtain ⟨bd, od, cd, rfl, hd5, hdc, hdN, hdl, hdat⟩ := hdm.at_ (by omega)
  have hpd : ¬ bd = p := by omega
  have HD : Hid (∀ i, i < 5 → w.cell? ⟨bd, od + i, none⟩ = some (.int .u8 ((i + 1 : Nat) : Int))) := fun i hi => by have := hdat i hi 0 (by omega); simpa using this
  clear hx hy h he hs hdm hdat
  go_enter Tryz.func112, Tryz.ntmps112
  go_upto_region 1 with fail
  refine wp_region_gj (J := GJ _ (SKS (S := (fun b => b = p)) (fun κ => match κ with | 0 => KS.eq (.slice (some ⟨bd, od, none⟩) 5 cd) | 1 => KS.eq (vs) | 2 => KS.eq (.pointer (some ⟨p, 0, none⟩)) | 3 => KS.pure (fun v => ∃ t r, x = .ok (t, r) ∧ v = tokV t ∧ TokOk t) | 4 => KS.pure (fun v => ∃ t r, x = .ok (t, r) ∧ v = .string (bs t.text) ∧ TokOk t) | 5 => KS.pure (fun v => ∃ t r, x = .ok (t, r) ∧ v = .int .i64 (idxZ scopesL t.text)) | 6 => KS.pure (fun v => ∃ t r, x = .ok (t, r) ∧ v = .pointer (some ⟨bd, od + (scopeN t.text - 1), none⟩) ∧ scopedT t = true) | 7 => KS.pure (fun v => ∃ t r, x = .ok (t, r) ∧ v = .int .u8 ((scopeN t.text : Nat) : Int)) | 8 => KS.pure (fun v => ∃ t r, x = .ok (t, r) ∧ v = .int .u8 ((scopeN t.text : Nat) : Int)) | _ => KS.any)) (CP (fun b => b = p) w p en 3 ts x) _) (by kernel_rfl) ?_ ?_ (GJ.start (CP.start HP.out))
  · intro listed a w9 i hr hj
    obtain ⟨hi12, hun, _, _, _⟩ := ready_mem hr
    have h12 : i ∈ List.range 9 := List.mem_range.2 hi12
    simp only [List.range, List.range.loop, List.mem_cons, List.not_mem_nil, or_false] at h12
    obtain ⟨f, rfl, hcm, hf⟩ := hj.opened [3, 4, 5, 6, 7, 8, 9, 10, 2] (by kernel_rfl)
    replace hcm : CP (fun b => b = p) w p en 3 ts x listed f w9 := hcm
    rcases h12 with rfl | rfl | rfl | rfl | rfl | rfl | rfl | rfl | rfl
    · have kc := hcm.1.cell g1 hp1
      refine GJ.op hj (by kernel_rfl) hr rfl [3, 4, 5, 6, 7, 8, 9, 10, 2] (by kernel_rfl) (fun K hK => ?_)
      simp only [Act.put, List.foldl_cons, List.foldl_nil, List.setIfInBounds_toArray, List.set_cons_zero, List.set_cons_succ] at hK ⊢
      clear hj hf
      go_simp
      exact hK _ _ (fun k v _ _ h => h) (fun t ht => rfl) (hcm.keep (by decide) (Below.refl _ _))
    · have kc := hcm.1.cell g0 hp0
      refine GJ.op hj (by kernel_rfl) hr rfl [3, 4, 5, 6, 7, 8, 9, 10, 2] (by kernel_rfl) (fun K hK => ?_)
      simp only [Act.put, List.foldl_cons, List.foldl_nil, List.setIfInBounds_toArray, List.set_cons_zero, List.set_cons_succ] at hK ⊢
      clear hj hf
      go_simp
      exact hK _ _ (fun k v _ _ h => h) (fun t ht => rfl) (hcm.keep (by decide) (Below.refl _ _))
    · refine GJ.op hj (by kernel_rfl) hr rfl [3, 4, 5, 6, 7, 8, 9, 10, 2] (by kernel_rfl) (fun K hK => ?_)
      simp only [Act.put, List.foldl_cons, List.foldl_nil, List.setIfInBounds_toArray, List.set_cons_zero, List.set_cons_succ] at hK ⊢
      clear hj hf
      go_simp
      exact hK _ _ (fun k v _ _ h => h) (fun t ht => rfl) (hcm.keep (by decide) (Below.refl _ _))
    · have e1 : f 5 = .pointer (some ⟨p, 0, none⟩) := hf 2 _ _ rfl rfl (up_dep hr (by kernel_rfl))
      have hnu : ¬ up listed 3 := not_up hun
      have hls := hj.lsize
      refine GJ.op hj (by kernel_rfl) hr rfl [3, 4, 5, 6, 7, 8, 9, 10, 2] (by kernel_rfl) (fun K hK => ?_)
      simp only [Act.put, List.foldl_cons, List.foldl_nil, List.setIfInBounds_toArray, List.set_cons_zero, List.set_cons_succ] at hK ⊢
      clear hj hf
      rw [e1] at hK ⊢
      clear e1
      go_simp
      refine (next_c _ p ts en _ scopedT (hcm.2.1 hnu) (cls_scoped (Nat.le_trans hN hcm.1.size) (HE.out.fx hcm.1 hpN))).mono ?_
      rw [HX.out]
      rintro e w10 ⟨hf10, hr10⟩
      rcases hx10 : x with r | ⟨t, r⟩
      · rw [hx10] at hr10
        have hr10 : e = _ := hr10
        subst hr10
        exact ⟨rfl, hcm.1.trans hf10, by rw [← HY.out, hx10]; rfl⟩
      · rw [hx10] at hr10
        obtain ⟨hp10, v, rfl, rfl, ht10⟩ := hr10
        exact hK _ _ (fun k v _ _ h => KS.st _ _ _ _ hf10 h) (fun _ _ => ⟨t, r, hx10, rfl, ht10⟩) (hcm.put (by rw [hls]; decide) hf10 hx10 hp10)
    · obtain ⟨t, r, hx9, e3, ht9⟩ : ∃ t r, x = .ok (t, r) ∧ f 6 = tokV t ∧ TokOk t := hf 3 _ _ rfl rfl (up_dep hr (by kernel_rfl))
      refine GJ.op hj (by kernel_rfl) hr rfl [3, 4, 5, 6, 7, 8, 9, 10, 2] (by kernel_rfl) (fun K hK => ?_)
      simp only [Act.put, List.foldl_cons, List.foldl_nil, List.setIfInBounds_toArray, List.set_cons_zero, List.set_cons_succ] at hK ⊢
      clear hj hf
      rw [e3] at hK ⊢
      clear e3
      unfold tokV at hK ⊢
      go_simp
      exact hK _ _ (fun k v _ _ h => h) (fun _ _ => ⟨t, r, hx9, rfl, ht9⟩) (hcm.keep (by decide) (Below.refl _ _))
    · obtain ⟨t, r, hx9, e3, ht9⟩ : ∃ t r, x = .ok (t, r) ∧ f 7 = .string (bs t.text) ∧ TokOk t := hf 4 _ _ rfl rfl (up_dep hr (by kernel_rfl))
      have e1 : f 4 = vs := hf 1 _ _ rfl rfl (up_dep hr (by kernel_rfl))
      refine GJ.op hj (by kernel_rfl) hr rfl [3, 4, 5, 6, 7, 8, 9, 10, 2] (by kernel_rfl) (fun K hK => ?_)
      simp only [Act.put, List.foldl_cons, List.foldl_nil, List.setIfInBounds_toArray, List.set_cons_zero, List.set_cons_succ] at hK ⊢
      clear hj hf
      rw [e1] at hK ⊢
      clear e1
      rw [e3] at hK ⊢
      clear e3
      go_simp
      refine (indexS_c _ _ _ _ t.text (HS.out.fx hcm.1 hd)).mono ?_
      rintro e w10 ⟨rfl, hb10⟩
      exact hK _ _ (fun k v _ _ h => KS.st _ _ _ _ (Fx.of_below hb10) h) (fun _ _ => ⟨t, r, hx9, rfl⟩) (hcm.keep (by decide) hb10)
    · obtain ⟨t, r, hx9, e3⟩ : ∃ t r, x = .ok (t, r) ∧ f 8 = .int .i64 (idxZ scopesL t.text) := hf 5 _ _ rfl rfl (up_dep hr (by kernel_rfl))
      have e1 : f 3 = .slice (some ⟨bd, od, none⟩) 5 cd := hf 0 _ _ rfl rfl (up_dep hr (by kernel_rfl))
      refine GJ.op hj (by kernel_rfl) hr rfl [3, 4, 5, 6, 7, 8, 9, 10, 2] (by kernel_rfl) (fun K hK => ?_)
      simp only [Act.put, List.foldl_cons, List.foldl_nil, List.setIfInBounds_toArray, List.set_cons_zero, List.set_cons_succ] at hK ⊢
      clear hj hf
      rw [e1] at hK ⊢
      clear e1
      have hst := nextP_len (HX.out.trans hx9)
      obtain ⟨i0, hi0, hi5, hz⟩ := scope_idx hst.2
      rw [e3, hz] at hK ⊢
      have HI := Lib.hid hi0
      clear e3 hi0
      have q5 : (i0 : Int) < 5 := by omega
      have q0 : (0 : Int) ≤ (i0 : Int) := by omega
      go_simp
      exact hK _ _ (fun k v _ _ h => h) (fun _ _ => ⟨t, r, hx9, by rw [HI.out], hst.2⟩) (hcm.keep (by decide) (Below.refl _ _))
    · obtain ⟨t, r, hx9, e3, hst⟩ : ∃ t r, x = .ok (t, r) ∧ f 9 = .pointer (some ⟨bd, od + (scopeN t.text - 1), none⟩) ∧ scopedT t = true := hf 6 _ _ rfl rfl (up_dep hr (by kernel_rfl))
      refine GJ.op hj (by kernel_rfl) hr rfl [3, 4, 5, 6, 7, 8, 9, 10, 2] (by kernel_rfl) (fun K hK => ?_)
      simp only [Act.put, List.foldl_cons, List.foldl_nil, List.setIfInBounds_toArray, List.set_cons_zero, List.set_cons_succ] at hK ⊢
      clear hj hf
      rw [e3] at hK ⊢
      clear e3
      obtain ⟨i0, hi0, hi5, hz⟩ := scope_idx hst
      have HSC : Hid (scopeN t.text = i0 + 1) := by have := scope_pos hst; show _ = _; omega
      rw [← hi0] at hK ⊢
      clear hi0
      have kc := hcm.1.cell (HD.out i0 hi5) hpd
      have klt := World.block_lt_of_cell? _ _ kc
      simp only at klt
      go_simp
      exact hK _ _ (fun k v _ _ h => h) (fun _ _ => ⟨t, r, hx9, by rw [HSC.out]; simp⟩) (hcm.keep (by decide) (Below.refl _ _))
    · obtain ⟨t, r, hx9, e3⟩ : ∃ t r, x = .ok (t, r) ∧ f 10 = .int .u8 ((scopeN t.text : Nat) : Int) := hf 7 _ _ rfl rfl (up_dep hr (by kernel_rfl))
      refine GJ.op hj (by kernel_rfl) hr rfl [3, 4, 5, 6, 7, 8, 9, 10, 2] (by kernel_rfl) (fun K hK => ?_)
      simp only [Act.put, List.foldl_cons, List.foldl_nil, List.setIfInBounds_toArray, List.set_cons_zero, List.set_cons_succ] at hK ⊢
      clear hj hf
      rw [e3] at hK ⊢
      clear e3
      go_simp
      exact hK _ _ (fun k v _ _ h => h) (fun _ _ => ⟨t, r, hx9, rfl⟩) (hcm.keep (by decide) (Below.refl _ _))
  · intro listed a w10 hr hj
    have hu : ∀ k, k < 9 → up listed k := fun k hk => all_up (by kernel_rfl) hj.lsize hr k hk
    obtain ⟨f, rfl, hcm, hf⟩ := hj.opened [3, 4, 5, 6, 7, 8, 9, 10, 2] (by kernel_rfl)
    replace hcm : CP (fun b => b = p) w p en 3 ts x listed f w10 := hcm
    obtain ⟨t, r, hx9, e3⟩ : ∃ t r, x = .ok (t, r) ∧ f 2 = .int .u8 ((scopeN t.text : Nat) : Int) := hf 8 _ _ rfl rfl (hu 8 (by omega))
    obtain ⟨a', r', hx8, hp⟩ := hcm.2.2 (hu 3 (by omega))
    obtain ⟨rfl, rfl⟩ : t = a' ∧ r = r' := by rw [hx9] at hx8; injection hx8 with hx8; injection hx8 with e1 e2; exact ⟨e1, e2⟩
    have HP10 := Lib.hid hp
    have HF10 := Lib.hid hcm.1
    have HY2 : Hid (y = .ok (scopeN t.text, r)) := by show _ = _; rw [← HY.out, hx9]; rfl
    clear hcm hf hj hr hu hp hx8 hx9
    simp only [List.foldl_cons, List.foldl_nil, List.setIfInBounds_toArray, List.set_cons_zero, List.set_cons_succ]
    rw [e3]
    clear e3
    generalize f 3 = g3
    generalize f 4 = g4
    generalize f 5 = g5
    generalize f 6 = g6
    generalize f 7 = g7
    generalize f 8 = g8
    generalize f 9 = g9
    generalize f 10 = g10
    clear f
    go_wp2_with fail
    go_ret
    rw [HY2.out]
    exact ⟨HF10.out, HP10.out, _, rfl, rfl, scopeN_lt _⟩
end Go.Proofs.YtganlldidjbpiaaGreatDoor
