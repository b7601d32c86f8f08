/- CanaryKnown: kinds of what the operations of its drawn regions yield; a table of rollouts. -/
import Derived.Great.BuildSlice
import Derived.Test.YtebmegodeglobaaK01
import Derived.Test.YtebmegodeglobaaK22
import Derived.Test.YtebmegodeglobaaK26
set_option linter.unusedVariables false
namespace Go.Proofs.Ytebmegodeglobaa
open Go.RowKit

def kI (l : List Int) : KS := .st (fun w v => SlI w v l) (fun _ _ _ h hb => h.after hb)
def kB (l : List Bool) : KS := .st (fun w v => SlB w v l) (fun _ _ _ h hb => h.after hb)
def kF (x : F) : KS := .st (fun w v => IsF w v x) (fun _ _ _ h hb => h.after hb)
def kR (R : Ro) : KS := .st (fun w v => IsR w v R) (fun _ _ _ h hb => h.after hb)
def kP (P : Value → Prop) : KS := .st (fun _ v => P v) (fun _ _ _ h _ => h)
def kA (B : Nat) (cs : Array Value) (t : TypeId) : KS := .st (fun w v => ∃ b, v = .pointer (some ⟨b, 0, none⟩) ∧ B ≤ b ∧ Box w b cs t) (fun _ _ _ h hb => by
  obtain ⟨b, e, hB, h⟩ := h
  exact ⟨b, e, hB, h.after hb⟩)
/-- A slice of rollouts. -/
def IsOdd (w : World) (v : Value) (Rs : List Ro) : Prop := ∃ b, v = .slice (some ⟨b, 0, none⟩) Rs.length Rs.length ∧ b < w.heap.size ∧ ∀ i (h : i < Rs.length), ∃ c : Nat → Value, (∀ j, j < 8 → w.cell? ⟨b, i * 8 + j, none⟩ = some (c j)) ∧ IsR w (.agg #[c 0, c 1, c 2, c 3, c 4, c 5, c 6, c 7]) Rs[i]
theorem IsOdd.after {w w' : World} {v : Value} {Rs : List Ro} (h : IsOdd w v Rs) (hb : Below w.heap.size w w') : IsOdd w' v Rs := by
  obtain ⟨b, e, hl, h⟩ := h
  refine ⟨b, e, Nat.lt_of_lt_of_le hl hb.size, fun i hi => ?_⟩
  obtain ⟨c, h1, h2⟩ := h i hi
  exact ⟨c, fun j hj => keep_cell hb (h1 j hj), h2.after hb⟩
def kO (Rs : List Ro) : KS := .st (fun w v => IsOdd w v Rs) (fun _ _ _ h hb => h.after hb)
theorem IsR.flat {w : World} {v : Value} {R : Ro} (h : IsR w v R) : ∃ c : Nat → Value, v = .agg #[c 0, c 1, c 2, c 3, c 4, c 5, c 6, c 7] := by
  obtain ⟨vh, vw, va, vb, vc, vd, rfl, _⟩ := h
  exact ⟨fun j => match j with | 0 => vh | 1 => vw | 2 => .bool R.rate.neg | 3 => va | 4 => vb | 5 => .bool R.bound.neg | 6 => vc | _ => vd, rfl⟩
theorem odd_row {w : World} {vs : List Value} {Rs : List Ro} {t : TypeId} (hl : vs.length = Rs.length) (hr : ∀ i (h : i < Rs.length), IsR w (vs.getD i undef) Rs[i]) : IsOdd (w.alloc (.cells (vs.flatMap fun v => v.cells.toList).toArray t)) (.slice (some ⟨w.heap.size, 0, none⟩) Rs.length Rs.length) Rs := by
  have hsz : ∀ v ∈ vs, v.cells.size = 8 := fun v hv => by
    obtain ⟨i, hi, rfl⟩ := List.getElem_of_mem hv
    obtain ⟨c, e⟩ := (hr i (by omega)).flat
    rw [List.getD_eq_getElem?_getD, List.getElem?_eq_getElem hi] at e
    have e : vs[i] = _ := e
    rw [e]; rfl
  have hbx := Box.new w (vs.flatMap fun v => v.cells.toList).toArray t
  refine ⟨w.heap.size, rfl, hbx.lt, fun i hi => ?_⟩
  obtain ⟨c, e⟩ := (hr i hi).flat
  refine ⟨c, fun j hj => ?_, ?_⟩
  · rw [hbx.cell, List.getElem?_toArray, Great.flat_get (s := 8) (by omega) vs hsz]
    have h1 : (i * 8 + j) / 8 = i := by omega
    have h2 : (i * 8 + j) % 8 = j := by omega
    rw [List.getD_eq_getElem?_getD, List.getElem?_eq_getElem (show i < vs.length by omega)] at e
    have e : vs[i]'(by omega) = _ := e
    rw [h1, h2, List.getElem?_eq_getElem (show i < vs.length by omega)]
    show (vs[i]'(by omega)).cells[j]? = _
    rw [e]
    match j, hj with
    | 0, _ => rfl
    | 1, _ => rfl
    | 2, _ => rfl
    | 3, _ => rfl
    | 4, _ => rfl
    | 5, _ => rfl
    | 6, _ => rfl
    | 7, _ => rfl
  · rw [← e]
    exact (hr i hi).after (held_alloc (Below.refl _ _))
theorem infoRo : (Try.prog.info? 28).map (fun i => (i.zero, i.size, i.bytes)) = some (some (.agg #[.slice none 0 0, .slice none 0 0, .bool false, .slice none 0 0, .slice none 0 0, .bool false, .slice none 0 0, .slice none 0 0]), 8, 160) := by kernel_rfl
/-- The literal of the table. -/
theorem step_odd {w : World} {ops : Array Oper} {o : Oper} {tm : Array Value} {df : List Deferred} {K : Act → World → Prop} {Q : Exit → Act → World → Prop} {E : Prop} (hg : o.guard = none) (n : Nat) (parts : Array (Nat × Operand)) (ho : o.op = .buildSlice 41 n parts)
    (vs : List Value) (Rs : List Ro) (hn : Rs.length = n) (h0 : 0 < n) (h1 : n ≤ 100000) (hparts : parts.toList.map (fun p => (p.1, (⟨tm, df⟩ : Act).eval p.2)) = (vs.zipIdx 0).map fun x => (x.2, x.1)) (hl : vs.length = Rs.length) (hr : ∀ i (h : i < Rs.length), IsR w (vs.getD i undef) Rs[i])
    (hK : ∀ v w', IsOdd w' v Rs → Below w.heap.size w w' → K ((⟨tm, df⟩ : Act).put o.dst v) w') :
    if Region.wanted o (yielded ops tm) = true then o.wp Try.prog ⟨tm, df⟩ w K Q else E := by
  have hw : Region.wanted o (yielded ops tm) = true := by simp [Region.wanted, hg]
  rw [if_pos hw]
  obtain ⟨i0, hi', hz0, hz1, hz2⟩ := info_parts infoRo
  have hsz : ∀ v ∈ vs, v.cells.size = 8 := fun v hv => by
    obtain ⟨i, hi, rfl⟩ := List.getElem_of_mem hv
    obtain ⟨c, e⟩ := (hr i (by omega)).flat
    rw [List.getD_eq_getElem?_getD, List.getElem?_eq_getElem hi] at e
    have e : vs[i] = _ := e
    rw [e]; rfl
  subst hn
  refine wp_buildSlice 41 28 _ parts ho _ i0 _ Try.underlying41 hi' hz0 (by rw [hz1]; omega) (by rw [hz1]; omega) (by
    rw [Array.toList_map]
    have hp2 : (parts.toList.map fun (i, x) => (i, (⟨tm, df⟩ : Act).eval x)) = (vs.zipIdx 0).map fun x => (x.2, x.1) := hparts
    rw [hp2, hz1]
    exact Great.fill_whole (by omega) vs _ hsz (by simp [hl])) ?_
  exact hK _ _ (odd_row hl hr) (held_alloc (Below.refl _ _))
theorem IsF.parts3 {w : World} {s : Bool} {va vb : Value} {x : F} (h : IsF w (.agg #[.bool s, va, vb]) x) : s = x.neg ∧ Sl w va x.num ∧ Sl w vb x.den := by
  obtain ⟨a, b, e, h1, h2⟩ := h
  simp only [Value.agg.injEq, Array.mk.injEq, List.cons.injEq, Value.bool.injEq, and_true] at e
  obtain ⟨rfl, rfl, rfl⟩ := e
  exact ⟨rfl, h1, h2⟩
theorem IsR.mk {w : World} {vh vw va vb vc vd : Value} {h wv : List Int} {x y : F} (h1 : SlI w vh h) (h2 : SlI w vw wv) (h3 : Sl w va x.num) (h4 : Sl w vb x.den) (h5 : Sl w vc y.num) (h6 : Sl w vd y.den) : IsR w (.agg #[vh, vw, .bool x.neg, va, vb, .bool y.neg, vc, vd]) ⟨h, wv, x, y⟩ := ⟨_, _, _, _, _, _, rfl, h1, h2, h3, h4, h5, h6⟩
/-- A fraction's value stored into a variable of a fraction. -/
theorem frac_store {w : World} {b : Nat} {c0 c1 c2 va vb : Value} {x : F} (h : Box w b #[c0, c1, c2] 26) (h1 : Sl w va x.num) (h2 : Sl w vb x.den) : VarF (((w.setCell ⟨b, 0, none⟩ (.bool x.neg)).setCell ⟨b, 1, none⟩ va).setCell ⟨b, 2, none⟩ vb) b x :=
  ⟨va, vb, end_box h, h1.grown (grown_set3 w b _ _ _) (h.noTag (by decide)), h2.grown (grown_set3 w b _ _ _) (h.noTag (by decide))⟩
theorem box_set {w : World} {b : Nat} {cs : Array Value} {t : TypeId} (h : Box w b cs t) (i : Nat) (u : Value) : Box (w.setCell ⟨b, i, none⟩ u) b (cs.setIfInBounds i u) t := by
  unfold Box at h ⊢
  simp [World.setCell, Array.getElem?_modify, h]
theorem box_two {w : World} {b : Nat} {cs ds : Array Value} {t u : TypeId} (h : Box w b cs t) (k : Box w b ds u) (hne : t ≠ u) : False := by
  have e := h.symm.trans k
  injection e with e
  injection e with _ e
  exact hne e
/-- The rate of a rollout's variable is written anew. -/
theorem rate_fx (w : World) (b : Nat) (x u v : Value) : Fx (fun g => g = b) w (((w.setCell ⟨b, 2, none⟩ x).setCell ⟨b, 3, none⟩ u).setCell ⟨b, 4, none⟩ v) :=
  (Fx.refl _ w).of (grown_tr (grown_tr (grown_set w b 2 x) (grown_set _ b 3 u)) (grown_set _ b 4 v)) rfl
theorem rate_box {w : World} {b : Nat} {x0 x1 x2 x3 x4 x5 x6 x7 : Value} {t : TypeId} (h : Box w b #[x0, x1, x2, x3, x4, x5, x6, x7] t) (x u v : Value) : Box (((w.setCell ⟨b, 2, none⟩ x).setCell ⟨b, 3, none⟩ u).setCell ⟨b, 4, none⟩ v) b #[x0, x1, x, u, v, x5, x6, x7] t := by
  have h2 := box_set (box_set (box_set h 2 x) 3 u) 4 v
  simpa using h2
/-- A tuple of a decision, or of a fraction, and an error. -/
def kD (e : Int) : KS := .pv (fun v => ∃ u, v = .tuple #[u, .int .i64 e]) (fun _ v => ∃ p n c, v = .tuple #[.agg #[.int .u8 0, .slice p n c], .int .i64 e]) (fun _ _ _ h _ => h)
def kU (x : F) (e : Int) : KS := .pv (fun v => ∃ u, v = .tuple #[u, .int .i64 e]) (fun w v => ∃ u, v = .tuple #[u, .int .i64 e] ∧ IsF w u x) (fun _ _ _ h hb => by
  obtain ⟨u, e1, h⟩ := h
  exact ⟨u, e1, h.after hb⟩)
theorem stayBox (cs : Array Value) (t : TypeId) : StayB (fun w b => Box w b cs t) := fun _ _ _ h hb => h.after hb
theorem stayTrue : StayB (fun _ _ => True) := fun _ _ _ h _ => h
theorem stayVar (x : F) : StayB (fun w b => VarF w b x) := fun _ _ _ h hb => h.after hb
/-- A variable of a rollout. -/
def VarRo (w : World) (b : Nat) (R : Ro) : Prop := ∃ (p0 p1 p2 p3 p4 p5 : Option Addr) (c0 c1 c2 c3 c4 c5 : Nat), Box w b #[.slice p0 R.hosts.length c0, .slice p1 R.waves.length c1, .bool R.rate.neg, .slice p2 R.rate.num.length c2, .slice p3 R.rate.den.length c3, .bool R.bound.neg, .slice p4 R.bound.num.length c4, .slice p5 R.bound.den.length c5] 28 ∧
  IsR w (.agg #[.slice p0 R.hosts.length c0, .slice p1 R.waves.length c1, .bool R.rate.neg, .slice p2 R.rate.num.length c2, .slice p3 R.rate.den.length c3, .bool R.bound.neg, .slice p4 R.bound.num.length c4, .slice p5 R.bound.den.length c5]) R
theorem stayRo (R : Ro) : StayB (fun w b => VarRo w b R) := fun _ _ _ h hb => by
  obtain ⟨p0, p1, p2, p3, p4, p5, c0, c1, c2, c3, c4, c5, h1, h2⟩ := h
  exact ⟨p0, p1, p2, p3, p4, p5, c0, c1, c2, c3, c4, c5, h1.after hb, h2.after hb⟩
theorem in_lit (l : List Int) (h : l.all (fun z => decide (-1000 ≤ z ∧ z ≤ 1000)) = true) : ∀ z ∈ l, In64 z := fun z hz => by
  have := of_decide_eq_true (List.all_eq_true.1 h z hz)
  unfold In64
  omega
theorem sl_f0 (w : World) : Sl w (.slice none 0 0) (F0 : F).num ∧ Sl w (.slice none 0 0) (F0 : F).den := ⟨Sl.nil w, Sl.nil w⟩
theorem next_bad {R : Ro} (h : ¬ ValidR R) (l : List Bool) : nextF R l = (⟨0, []⟩, 1) := by unfold nextF; rw [if_neg h]
theorem run_bad {R : Ro} (h : ¬ ValidR R) (l : List Bool) : runF R l = ([], 1) := by unfold runF; rw [if_neg h]
theorem allowed_bad {R : Ro} (h : ¬ ValidR R) : allowedF R = ([], 1) := by unfold allowedF; rw [if_neg h]
theorem chance_bad {R : Ro} (h : ¬ ValidR R) (x : F) : chanceF R x = (F0, 1) := by unfold chanceF; rw [if_pos (.inl h)]
theorem of_54 : (ofF 5 4).1 = fr false 5 4 := congrArg Prod.fst (ofF_ok (a := 5) (b := 4) rfl rfl ok54)
theorem of_32 : (ofF 3 2).1 = fr false 3 2 := congrArg Prod.fst (ofF_ok (a := 3) (b := 2) rfl rfl ok32)
theorem of_fine : (ofF 1 1001).1 = fr false 1 1001 := congrArg Prod.fst (ofF_ok (a := 1) (b := 1001) rfl rfl ok_fine)
theorem of_11 : (ofF 1 1).1 = fr false 1 1 := congrArg Prod.fst (ofF_ok (a := 1) (b := 1) rfl rfl ok11)
theorem of_01 : (ofF 0 1).1 = fr false 0 1 := congrArg Prod.fst (ofF_ok (a := 0) (b := 1) rfl rfl ok01)
theorem of_n14 : (ofF (-1) 4).1 = fr true 1 4 := by
  unfold ofF
  rw [if_neg (by decide)]
  exact congrArg Prod.fst (made_okS (s := true) (a := 1) (b := 4) okn14)
end Go.Proofs.Ytebmegodeglobaa
