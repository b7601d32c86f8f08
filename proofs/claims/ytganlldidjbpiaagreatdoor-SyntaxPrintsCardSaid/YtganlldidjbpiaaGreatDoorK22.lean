/- Walks of package syntax: Formed.
   Walks of package syntax: texts of what can be printed; rows of bytes; joined words.
   Walks of package syntax: Print. -/
import Derived.Test.YtganlldidjbpiaaGreatDoorK21
import Derived.Test.YtganlldidjbpiaaGreatDoorK18
import Derived.Lib.BufferRead
import Derived.Lib.AppendStr
import Derived.Lib.UnsafeStr
set_option linter.unusedVariables false
namespace Go.Proofs.YtganlldidjbpiaaGreatDoor
open Go.RowKit Go.Shelf

def formBI (c : Cl) : Bool := formG c true true
def formBT (c : Cl) : Bool := formG c false (c.items.all formBI)
theorem rightB_yes (n : Int) : rightB n true = decide (okNum n) := by
  rw [Bool.eq_iff_iff, decide_eq_true_eq]
  unfold rightB okNum
  simp only [Bool.true_and, Bool.or_eq_true, Bool.and_eq_true, decide_eq_true_eq]
  omega
theorem rightB_no (n : Int) : rightB n false = decide (n = 0) := by
  unfold rightB
  simp
theorem len_nil {α : Type} (l : List α) : ¬ 0 < l.length ↔ l = [] := by
  cases l <;> simp
theorem formBI_iff (c : Cl) : formBI c = true ↔ formI c := by
  obtain ⟨k, hk⟩ : ∃ k, c.kind = k := ⟨_, rfl⟩
  by_cases hr : 6 ≤ k ∧ k ≤ 12
  · have hd : okDom c.dom → ¬ c.dom = 0 := fun h => by unfold okDom at h; omega
    match k, hr, hk with
    | 6, _, hk | 7, _, hk | 8, _, hk | 9, _, hk | 10, _, hk | 11, _, hk | 12, _, hk =>
      simp [formBI, formG, formI, hk, hasF, partsOf, rightB_yes, rightB_no]
      try grind
    | k + 13, h, _ => exact absurd h (by omega)
  · have h1 : ¬ formI c := fun h => hr (hk ▸ h.1)
    have h2 : formBI c = false := by
      unfold formBI formG
      rw [if_pos]
      rw [hk]
      by_cases h6 : 6 ≤ k
      · rw [show decide (1 ≤ k ∧ k ≤ 12) = false from decide_eq_false (by omega)]; rfl
      · rw [show decide (6 ≤ k) = false from decide_eq_false h6]; simp
    rw [h2]
    simp [h1]
theorem formBT_iff (c : Cl) : formBT c = true ↔ formT c := by
  obtain ⟨k, hk⟩ : ∃ k, c.kind = k := ⟨_, rfl⟩
  have hall : (c.items.all formBI = true) ↔ ∀ x ∈ c.items, formI x := by
    rw [List.all_eq_true]
    exact ⟨fun h x hx => (formBI_iff x).1 (h x hx), fun h x hx => (formBI_iff x).2 (h x hx)⟩
  by_cases hr : 1 ≤ k ∧ k ≤ 5
  · have hd : okDom c.dom → ¬ c.dom = 0 := fun h => by unfold okDom at h; omega
    have hn : c.items = [] → c.items.all formBI = true := fun e => by rw [e]; rfl
    unfold formBT
    generalize c.items.all formBI = bb at *
    match k, hr, hk with
    | 1, _, hk | 2, _, hk | 3, _, hk | 4, _, hk | 5, _, hk =>
      simp [formG, formT, hk, hasF, partsOf, rightB_yes, rightB_no]
      try grind
    | k + 6, h, _ => exact absurd h (by omega)
  · have h1 : ¬ formT c := fun h => hr (hk ▸ h.1)
    have h2 : formBT c = false := by
      unfold formBT formG
      rw [if_pos]
      rw [hk]
      by_cases h6 : 6 ≤ k
      · rw [show decide (6 ≤ k) = true from decide_eq_true h6]; simp
      · rw [show decide (1 ≤ k ∧ k ≤ 12) = false from decide_eq_false (by omega)]; rfl
    rw [h2]
    simp [h1]
set_option maxRecDepth 100000 in
set_option maxHeartbeats 4000000 in
theorem formed2_c (N : Nat) (D : Nat → Prop) (w : World) (c : Cl) (vn vi : Value) (h : HasC D w vn vi c) (hN : N ≤ w.heap.size) (he : Wds N w) :
    Calls Tryz.prog 61 #[.agg (clV c vn vi).toArray] w (RetB w (formBI c)) := by
  obtain ⟨qn, cn, rfl, _, _, _⟩ := (hasC_iff.1 h).2.1.2.shape
  obtain ⟨qi, ci, rfl, _, _, _⟩ := (hasC_iff.1 h).2.2.shape
  obtain ⟨W0, hW⟩ : ∃ W0, W0 = w.alloc (.cells (clV c (.slice qn c.names.length cn) (.slice qi c.items.length ci)).toArray 43) := ⟨_, rfl⟩
  have hb0 : Below w.heap.size w W0 := hW ▸ held_alloc (Below.refl _ w)
  have bx : Box W0 w.heap.size (clV c (.slice qn c.names.length cn) (.slice qi c.items.length ci)).toArray 43 := hW ▸ Box.new w _ _
  have HF := Lib.hid (formed_c N D W0 c _ _ true true (HasC.fx (S := fun _ => False) (Fx.of_below hb0) (fun _ _ _ e => e) c h) (Nat.le_trans hN hb0.size) (he.after hb0) (fun _ e => by cases e) (fun _ => rfl))
  unfold clV at hW bx HF ⊢
  obtain ⟨k0, k1, k2, k3, k4, k5, k6, k7⟩ := bx.cells8
  have l0 := bx.lt
  have HB := Lib.hid hb0
  obtain ⟨B, hB⟩ : ∃ B, formBI c = B := ⟨_, rfl⟩
  have hB' : formG c true true = B := hB
  rw [hB'] at HF
  rw [hB]
  clear bx h he hb0 hB hB'
  go_enter Tryz.func61, Tryz.ntmps61
  go_upto_region 1 with fail
  rw [← hW]
  clear hW
  go_wp2_with fail
  refine HF.out.mono ?_
  rintro e w1 ⟨rfl, hb1⟩
  have HB1 := Lib.hid (HB.out.trans (hb1.mono HB.out.size))
  clear hb1 k0 k1 k2 k3 k4 k5 k6 k7
  go_wp2_with fail
  go_ret
  exact ⟨rfl, HB1.out⟩
set_option maxRecDepth 100000 in
set_option maxHeartbeats 4000000 in
theorem formed1_c (N : Nat) (D : Nat → Prop) (w : World) (c : Cl) (vn vi : Value) (h : HasC D w vn vi c) (hN : N ≤ w.heap.size) (he : Wds N w) :
    Calls Tryz.prog 29 #[.agg (clV c vn vi).toArray] w (RetB w (formBT c)) := by
  obtain ⟨qn, cn, rfl, _, _, _⟩ := (hasC_iff.1 h).2.1.2.shape
  obtain ⟨qi, ci, rfl, _, _, _⟩ := (hasC_iff.1 h).2.2.shape
  obtain ⟨W0, hW⟩ : ∃ W0, W0 = w.alloc (.cells (clV c (.slice qn c.names.length cn) (.slice qi c.items.length ci)).toArray 43) := ⟨_, rfl⟩
  have hb0 : Below w.heap.size w W0 := hW ▸ held_alloc (Below.refl _ w)
  have bx : Box W0 w.heap.size (clV c (.slice qn c.names.length cn) (.slice qi c.items.length ci)).toArray 43 := hW ▸ Box.new w _ _
  have HF := Lib.hid (formed_c N D W0 c _ _ false (c.items.all formBI) (HasC.fx (S := fun _ => False) (Fx.of_below hb0) (fun _ _ _ e => e) c h) (Nat.le_trans hN hb0.size) (he.after hb0)
    (fun _ _ W hNW heW hW => everyC_c D W _ c.items 61 formBI hW (enters_of Tryz.func61 (by kernel_rfl) rfl) (fun x hx W' hW' vn vi hc => formed2_c N D W' x vn vi hc (Nat.le_trans hNW hW'.size) (heW.after hW')))
    (fun e => by rw [e]; rfl))
  unfold clV at hW bx HF ⊢
  obtain ⟨k0, k1, k2, k3, k4, k5, k6, k7⟩ := bx.cells8
  have l0 := bx.lt
  have HB := Lib.hid hb0
  obtain ⟨B, hB⟩ : ∃ B, formBT c = B := ⟨_, rfl⟩
  have hB' : formG c false (c.items.all formBI) = B := hB
  rw [hB'] at HF
  rw [hB]
  clear bx h he hb0 hB hB'
  go_enter Tryz.func29, Tryz.ntmps29
  go_upto_region 1 with fail
  rw [← hW]
  clear hW
  go_wp2_with fail
  refine HF.out.mono ?_
  rintro e w1 ⟨rfl, hb1⟩
  have HB1 := Lib.hid (HB.out.trans (hb1.mono HB.out.size))
  clear hb1 k0 k1 k2 k3 k4 k5 k6 k7
  go_wp2_with fail
  go_ret
  exact ⟨rfl, HB1.out⟩
set_option maxRecDepth 100000 in
set_option maxHeartbeats 4000000 in
theorem Formed_c (N : Nat) (D : Nat → Prop) (w : World) (v : Value) (l : List Cl) (h : SlC D w v l) (hN : N ≤ w.heap.size) (he : Wds N w) :
    Calls Tryz.prog 17 #[v] w (RetB w (l.all formBT)) := by
  have HF := Lib.hid (everyC_c D w v l 29 formBT h (enters_of Tryz.func29 (by kernel_rfl) rfl) (fun x hx W hW vn vi hc => formed1_c N D W x vn vi hc (Nat.le_trans hN hW.size) (he.after hW)))
  obtain ⟨B, hB⟩ : ∃ B, l.all formBT = B := ⟨_, rfl⟩
  rw [hB] at HF ⊢
  clear h he hB
  go_enter Tryz.func17, Tryz.ntmps17
  go_wp2_with fail
  refine HF.out.mono ?_
  rintro e w1 ⟨rfl, hb1⟩
  have HB1 := Lib.hid hb1
  clear hb1
  go_wp2_with fail
  go_ret
  exact ⟨rfl, HB1.out⟩
end Go.Proofs.YtganlldidjbpiaaGreatDoor

namespace Go.Proofs.YtganlldidjbpiaaGreatDoor
open Go.RowKit Go.Shelf

theorem six_I {c : Cl} (h : formI c) (hx : ∃ x, (x, 6) ∈ partsOf c.kind) : okDom c.dom := by
  obtain ⟨hk, _, _, _, hd, _⟩ := h
  have hk' : c.kind = 6 ∨ c.kind = 7 ∨ c.kind = 8 ∨ c.kind = 9 ∨ c.kind = 10 ∨ c.kind = 11 ∨ c.kind = 12 := by omega
  obtain ⟨x, hx⟩ := hx
  rcases hk' with e | e | e | e | e | e | e
  case inr.inr.inr.inl => rw [if_pos e] at hd; exact hd
  all_goals (rw [e] at hx; simp [partsOf] at hx)
theorem six_T {c : Cl} (h : formT c) (hx : ∃ x, (x, 6) ∈ partsOf c.kind) : okDom c.dom := by
  obtain ⟨hk, _, _, _, hd, _⟩ := h
  have hk' : c.kind = 1 ∨ c.kind = 2 ∨ c.kind = 3 ∨ c.kind = 4 ∨ c.kind = 5 := by omega
  obtain ⟨x, hx⟩ := hx
  rcases hk' with e | e | e | e | e
  case inr.inl => rw [if_pos (.inl e)] at hd; exact hd
  case inr.inr.inl => rw [if_pos (.inr e)] at hd; exact hd
  all_goals (rw [e] at hx; simp [partsOf] at hx)
theorem ok0 {p : Prop} [Decidable p] {z : Int} (h : if p then okNum z else z = 0) : 0 ≤ z := by
  split at h
  · exact h.1
  · omega
theorem ok0' {p : Prop} [Decidable p] {z : Int} (h : if p then z = 0 else okNum z) : 0 ≤ z := by
  split at h
  · omega
  · exact h.1
theorem texts_i (N : Nat) (D : Nat → Prop) (w : World) (c : Cl) (vn vi : Value) (h : HasC D w vn vi c) (hN : N ≤ w.heap.size) (he : Wds N w) (ht : Tab10 w) (hf : formI c) (hw : (textsI c).length ≤ 100000) :
    Calls Tryz.prog 26 #[.agg (clV c vn vi).toArray] w (RetW w (textsI c)) := by
  have hi : c.items = [] := hf.2.2.2.2.2.2.2
  have e : textsG c (c.items.flatMap (fun _ => [])) = textsI c := by rw [hi]; exact textsG_I hf
  have := texts_g N D w c vn vi (fun _ => []) h hN he ht (by have := hf.2.1; omega) (ok0' hf.2.2.2.1) (by have := hf.2.2.1; omega) (six_I hf) (by rw [e]; exact hw) (fun hk => absurd hf.1 (by omega))
  rwa [e] at this
theorem texts_t (N : Nat) (D : Nat → Prop) (w : World) (c : Cl) (vn vi : Value) (h : HasC D w vn vi c) (hN : N ≤ w.heap.size) (he : Wds N w) (ht : Tab10 w) (hf : formT c) (hw : (textsT c).length ≤ 100000) :
    Calls Tryz.prog 26 #[.agg (clV c vn vi).toArray] w (RetW w (textsT c)) := by
  have e : textsG c (c.items.flatMap textsI) = textsT c := textsG_T hf
  have := texts_g N D w c vn vi textsI h hN he ht (ok0 hf.2.1) (ok0 hf.2.2.1) (ok0 hf.2.2.2.1) (six_T hf) (by rw [e]; exact hw) (fun hk W hNW heW htW x hx vn' vi' hc => by
    have hfx := hf.2.2.2.2.2.2.2
    rw [if_pos hk] at hfx
    refine texts_i N D W x vn' vi' hc hNW heW htW (hfx x hx) ?_
    have h1 : (textsT c).length = (c.items.flatMap textsI).length + 4 := by unfold textsT; rw [if_pos hk]; simp
    have h2 : (textsI x).length ≤ (c.items.flatMap textsI).length := by
      obtain ⟨a, b, e⟩ := List.append_of_mem hx
      rw [e]; simp; omega
    omega)
  rwa [e] at this

/-! rows of bytes -/
def OwnB (w : World) (base : Nat) (v : Value) (l : List UInt8) : Prop := w.ownsRow base 5 1 v l.length (Lib.byteCells l)
theorem infoByteS : (Tryz.prog.info? 5).map (fun i => (i.zero, i.size, i.bytes)) = some (some (.int .u8 0), 1, 1) := by kernel_rfl
theorem OwnB.nil (w : World) (base : Nat) : OwnB w base (.slice none 0 0) [] := World.ownsRow_nil _ _ _ _
theorem OwnB.after {w w' : World} {base : Nat} {v : Value} {l : List UInt8} (h : OwnB w base v l) (hb : Below w.heap.size w w') : OwnB w' base v l :=
  World.ownsRow.kept (row := none) h ⟨hb.os, hb.tape, hb.output, hb.size, fun k hk _ => hb.block k hk⟩ (by cases hv : v.ownBlock <;> simp)
theorem OwnB.alloc {w : World} {base : Nat} {v : Value} {l : List UInt8} (h : OwnB w base v l) (o : Obj) : OwnB (w.alloc o) base v l := h.after (held_alloc (Below.refl _ _))
theorem OwnB.shape {w : World} {base : Nat} {v : Value} {l : List UInt8} (h : OwnB w base v l) : (v = .slice none 0 0 ∧ l = []) ∨ ∃ g c cur, v = .slice (some ⟨g, 0, none⟩) l.length c ∧ base ≤ g ∧ w.heap[g]? = some (.cells cur 5 (0, 0)) ∧ l.length ≤ c ∧ c ≤ 9223372036854775807 ∧ cur.toList.take l.length = Lib.byteCells l := by
  rcases h.2 with ⟨h1, h2⟩ | ⟨g, c, cur, h1, h2, h3, h4, h5, _, h6⟩
  · exact .inl ⟨h1, List.length_eq_zero_iff.1 h2⟩
  · exact .inr ⟨g, c, cur, h1, h2, h3, h4, h5, by rw [Nat.mul_one] at h6; exact h6⟩
theorem OwnN.ne {w : World} {b1 b2 : Nat} {v t : Value} {ws : List (List UInt8)} {l : List UInt8} (h1 : OwnN w b1 v ws) (h2 : OwnB w b2 t l) : ∀ b, some b = t.ownBlock → ¬ ofRow b1 v b := by
  rintro b e ⟨_, e'⟩
  rcases h2.shape with ⟨rfl, _⟩ | ⟨g, c, cur, rfl, _, hg, _⟩
  · cases e
  have e : b = g := by injection e
  subst e
  rcases h1.2.2.2 with ⟨rfl, _⟩ | ⟨g', c', cur', rfl, _, hg', _⟩
  · cases e'
  have e' : b = g' := by injection e'
  subst e'
  rw [hg] at hg'
  injection hg' with hg'
  injection hg' with _ ht
  exact absurd ht (by decide)
theorem wpList_appB {w : World} {ops : Array Oper} {rest : List Oper} {o : Oper} {a : Act} {Q : Exit → Act → World → Prop} (hgd : o.guard = none) (s x : Operand)
    (ho : o.op = .call { callee := .builtin .append, args := #[s, x], argTypes := #[57, 9] })
    (base : Nat) (v : Value) (l m : List UInt8) (hs : a.eval s = v) (hown : OwnB w base v l) (hx : a.eval x = .string (bs m)) (hl : l.length + m.length ≤ 100000000000) (hbase : base ≤ w.heap.size)
    (h : ∀ v' w', OwnB w' base v' (l ++ m) → Fx (fun b => some b = v.ownBlock) w w' → Below base w w' → wpList Tryz.prog ops Q rest (a.put o.dst v') w') :
    wpList Tryz.prog ops Q (o :: rest) a w := by
  obtain ⟨i0, hi, hz0, hz1, hz2⟩ := info_parts infoByteS
  have hm : (bs m).size = m.length := rfl
  refine Lib.wpList_append_own_string _ hgd s x 57 9 ho base 5 i0 Tryz.underlying57 Tryz.underlying9 hi hz0 hz1 hz2 v l.length (Lib.byteCells l) hs hown (bs m) hx (by unfold maxLen; omega) (by omega) hbase ?_
  intro v' w' h1 h2 _
  refine h v' w' ?_ (Fx.grown h2) ((Below.refl _ w).grown h2 hbase (fun k hk => (World.ownsRow.lt hown k hk).1))
  unfold OwnB
  have hap : Lib.byteCells (l ++ m) = Lib.byteCells l ++ Lib.strCells (bs m) := by simp [Lib.byteCells, Lib.strCells, bs]
  rw [hap, List.length_append]
  exact h1
theorem wpList_appB1 {w : World} {ops : Array Oper} {rest : List Oper} {o : Oper} {a : Act} {Q : Exit → Act → World → Prop} (hgd : o.guard = none) (s x : Operand)
    (ho : o.op = .call { callee := .builtin .append, args := #[s, x], argTypes := #[57, 57] })
    (base : Nat) (v : Value) (l : List UInt8) (c : UInt8) (g k : Nat) (hs : a.eval s = v) (hown : OwnB w base v l) (hx : a.eval x = .slice (some ⟨g, 0, none⟩) 1 k) (hg : w.cell? ⟨g, 0, none⟩ = some (.int .u8 (c.toNat : Int))) (hl : l.length ≤ 100000000000) (hbase : base ≤ w.heap.size)
    (h : ∀ v' w', OwnB w' base v' (l ++ [c]) → Fx (fun b => some b = v.ownBlock) w w' → Below base w w' → wpList Tryz.prog ops Q rest (a.put o.dst v') w') :
    wpList Tryz.prog ops Q (o :: rest) a w := by
  obtain ⟨i0, hi, hz0, hz1, hz2⟩ := info_parts infoByteS
  refine wpList_plain hgd fun K hK => ?_
  obtain ⟨v', w', hr, h1, h2, _⟩ := run_append_own_at (P := Tryz.prog) w base 57 o.type 5 i0 (.int .u8 0) 1 1 Tryz.underlying57 hi hz0 hz1 hz2 rfl (by decide) v l.length _ hown ⟨g, 0, none⟩ 1 k [.int .u8 (c.toNat : Int)] rfl (fun j u hu => by
    match j, hu with
    | 0, hu => rw [add_off]; simpa using hg.trans hu) (fun u hu => by rw [List.mem_singleton.1 hu]; rfl) (by unfold maxLen; omega) (by omega) hbase
  unfold Oper.wp execOp
  simp only [ho, resolve, invoke, builtin, Sem.run_bind, Sem.run_pure, Result.andThen_ok, List.map_toArray, List.map_cons, List.map_nil, hs, hx, hr]
  refine hK _ _ (h v' w' ?_ (Fx.grown h2) ((Below.refl _ w).grown h2 hbase (fun k hk => (World.ownsRow.lt hown k hk).1)))
  unfold OwnB
  have hap : Lib.byteCells (l ++ [c]) = Lib.byteCells l ++ [.int .u8 (c.toNat : Int)] := by simp [Lib.byteCells]
  rw [hap, List.length_append]
  exact h1
/-- string(row). -/
theorem run_str {w : World} {base : Nat} {v : Value} {l : List UInt8} (h : OwnB w base v l) : (convert 57 9 v).run Tryz.prog w = .ok (.string (bs l)) w := by
  rcases h.shape with ⟨rfl, rfl⟩ | ⟨g, c, cur, rfl, _, hg, _, _, ht⟩
  · exact Lib.run_convert_nil_bytes w _ _ 5 0 Tryz.underlying57 Tryz.underlying5 Tryz.underlying9
  · exact run_convert_bytes_back (P := Tryz.prog) w 57 9 5 ⟨g, 0, none⟩ c l Tryz.underlying57 Tryz.underlying5 Tryz.underlying9 (Lib.bytes_of_row hg ht)

/-! joined words -/
theorem joinW_snoc : ∀ (l : List (List UInt8)) (x : List UInt8), l ≠ [] → joinL [32] (l ++ [x]) = joinL [32] l ++ (32 :: x)
  | [], _, h => absurd rfl h
  | [y], x, _ => by simp [joinL]
  | y :: z :: l, x, _ => by
    have := joinW_snoc (z :: l) x (by simp)
    rw [List.cons_append, List.cons_append, joinL]
    rw [List.cons_append] at this
    rw [this, joinL]
    simp
theorem joinW_ne : ∀ (l : List (List UInt8)), (∀ x ∈ l, x ≠ []) → l ≠ [] → 0 < (joinL [32] l).length
  | [], _, h => absurd rfl h
  | [y], hx, _ => by rw [joinL]; exact List.length_pos_iff.2 (hx y (by simp))
  | y :: z :: l, hx, _ => by rw [joinL]; simp; omega
theorem joinW_mono (l : List (List UInt8)) : ∀ m : List (List UInt8), (joinL [32] l).length ≤ (joinL [32] (l ++ m)).length
  | [] => by rw [List.append_nil]; exact Nat.le_refl _
  | x :: m => by
    have h1 := joinW_mono (l ++ [x]) m
    rw [List.append_assoc] at h1
    refine Nat.le_trans ?_ h1
    by_cases h : l = []
    · subst h; simp [joinL]
    · rw [joinW_snoc l x h]; simp
  termination_by m => m.length
end Go.Proofs.YtganlldidjbpiaaGreatDoor

namespace Go.Proofs.YtganlldidjbpiaaGreatDoor
open Go.RowKit Go.Shelf

def RetPr (w : World) (r : List UInt8 × Nat) (e : Ending) (w' : World) : Prop := e = .returned (.tuple #[.string (bs r.1), .int .i64 (r.2 : Int)]) ∧ Below w.heap.size w w'
theorem take_flat {α β : Type} (f : α → List β) (l : List α) (i : Nat) (d : α) (hi : i < l.length) : (l.take (i + 1)).flatMap f = (l.take i).flatMap f ++ f (l.getD i d) := by
  rw [List.take_succ_eq_append_getElem hi, List.flatMap_append, List.getD_eq_getElem?_getD, List.getElem?_eq_getElem hi]
  simp
theorem take_flat_le {α β : Type} (f : α → List β) (l : List α) (i : Nat) : ∃ m, l.flatMap f = (l.take i).flatMap f ++ m := ⟨(l.drop i).flatMap f, by rw [← List.flatMap_append, List.take_append_drop]⟩
theorem printC_yes {l : List Cl} (h : l.all formBT = true) : printC l = if 4096 < (textC l).length then ([], 3) else (textC l, 0) := by
  unfold printC
  rw [if_pos]
  intro c hc
  exact (formBT_iff c).1 (List.all_eq_true.1 h c hc)
theorem printC_no {l : List Cl} (h : l.all formBT = false) : printC l = ([], 1) := by
  unfold printC
  rw [if_neg]
  intro hall
  have : l.all formBT = true := List.all_eq_true.2 fun c hc => (formBT_iff c).2 (hall c hc)
  rw [h] at this
  cases this
theorem OwnB.sh {w : World} {base : Nat} {v : Value} {l : List UInt8} (h : OwnB w base v l) : ∃ p c, v = .slice p l.length c ∧ l.length ≤ c ∧ c ≤ 9223372036854775807 := by
  rcases h.shape with ⟨rfl, rfl⟩ | ⟨g, c, _, rfl, _, _, h1, h2, _⟩
  · exact ⟨_, _, rfl, Nat.le_refl _, by omega⟩
  · exact ⟨_, _, rfl, h1, h2⟩
theorem OwnN.app {w W : World} {b1 b2 : Nat} {v t : Value} {ws : List (List UInt8)} {l : List UInt8} (h1 : OwnN w b1 v ws) (h2 : OwnB w b2 t l) (hf : Fx (fun b => some b = t.ownBlock) w W) : OwnN W b1 v ws := h1.fx hf (h1.ne h2)
set_option maxRecDepth 100000 in
set_option maxHeartbeats 4000000 in
theorem SPrint_c (N : Nat) (D : Nat → Prop) (w : World) (v : Value) (l : List Cl) (h : SlC D w v l) (hN : N ≤ w.heap.size) (he : Wds N w) (ht : Tab10 w) (hwl : (l.flatMap textsT).length ≤ 100000) (hwb : ∀ x ∈ l.flatMap textsT, x ≠ [] ∧ x.length ≤ 100000) :
    Calls Tryz.prog 15 #[v] w (RetPr w (printC l)) := by
  obtain ⟨pl, cl, rfl, l1, l2, _⟩ := h.shape
  have HF := Lib.hid (Formed_c N D w _ l h hN he)
  have HS := Lib.hid h
  have HE := Lib.hid he
  have HT := Lib.hid ht
  have HWL := Lib.hid hwl
  have HWB := Lib.hid hwb
  obtain ⟨pr, hpr⟩ : ∃ p, printC l = p := ⟨_, rfl⟩
  rw [hpr]
  have HPR := Lib.hid hpr
  obtain ⟨fb, hfb⟩ : ∃ b, l.all formBT = b := ⟨_, rfl⟩
  rw [hfb] at HF
  have HFB := Lib.hid hfb
  clear h he ht hwl hwb hpr hfb
  go_enter Tryz.func15, Tryz.ntmps15
  go_wp2_with fail
  refine HF.out.mono ?_
  rintro e w1 ⟨rfl, hb1⟩
  have HB1 := Lib.hid hb1
  clear hb1
  cases fb with
  | false =>
    have HP2 : Hid (pr = ([], 1)) := by show _ = _; rw [← HPR.out]; exact printC_no HFB.out
    go_wp2_with fail
    go_ret2
    exact ⟨by rw [HP2.out]; rfl, HB1.out⟩
  | true =>
    have HP2 : Hid (pr = if 4096 < (textC l).length then ([], 3) else (textC l, 0)) := by show _ = _; rw [← HPR.out]; exact printC_yes HFB.out
    obtain ⟨Z0, hz0⟩ : ∃ z, w1.heap.size = z := ⟨_, rfl⟩
    have HZ0 := Lib.hid hz0
    have hwz : w.heap.size ≤ w1.heap.size := HB1.out.size
    have hnl : (l.length : Int) ≤ 9223372036854775807 := by omega
    go_wp2_with fail
    go_loopg [4, 14] l.length (fun gn t ti wx => ∃ (i : Nat) (o : List UInt8), i ≤ l.length ∧ gn = l.length - i ∧ ti = .int .i64 (i : Int) ∧ Hid (o = joinL [32] ((l.take i).flatMap textsT)) ∧ Hid (o.length ≤ 4096) ∧ Hid (OwnB wx Z0 t o) ∧ Hid (Below Z0 w1 wx))
    case atStart => exact ⟨0, [], Nat.zero_le _, rfl, rfl, rfl, by show _ ≤ _; simp, OwnB.nil _ _, Below.refl _ _⟩
    case round =>
      obtain ⟨i, o, hi, rfl, rfl, ho, hol, hown, hbl⟩ := hrel
      have hszr := hbl.out.size
      have hz1 : Z0 ≤ w1.heap.size := by rw [HZ0.out]; exact Nat.le_refl _
      have hzr : Z0 ≤ wr.heap.size := Nat.le_trans hz1 hszr
      have hbr : Below w1.heap.size w1 wr := by rw [HZ0.out]; exact hbl.out
      have hbw : Below w.heap.size w wr := HB1.out.trans (hbr.mono hwz)
      have HBW := Lib.hid hbw
      by_cases hlt : i < l.length
      · obtain ⟨ba, oa, ca, ea, _, _, _, la, hca⟩ := (HS.out.after hbw).at_ (by omega)
        injection ea with ea _ ec
        subst ea ec
        obtain ⟨vn', vi', hhc, hcc⟩ := hca i hlt
        have hmem : l.getD i cl0 ∈ l := by rw [List.getD_eq_getElem?_getD, List.getElem?_eq_getElem hlt]; exact List.getElem_mem hlt
        have hst := take_flat textsT l i cl0 hlt
        obtain ⟨x', hx'⟩ : ∃ x, l.getD i cl0 = x := ⟨_, rfl⟩
        rw [hx'] at hhc hcc hmem hst
        obtain ⟨_, hn', hi'⟩ := hasC_iff.1 hhc
        obtain ⟨pn', kn', hpn', n1', n2', _⟩ := hn'.2.shape
        obtain ⟨pi', ki', hpi', i1', i2', _⟩ := hi'.shape
        subst hpn' hpi'
        obtain ⟨d0, d1, d2, d3, d4, d5, d6, d7⟩ := hcc
        have HST := Lib.hid hst
        have hft : formT x' := (formBT_iff x').1 (List.all_eq_true.1 HFB.out x' hmem)
        obtain ⟨ws, hws⟩ : ∃ ws, textsT x' = ws := ⟨_, rfl⟩
        obtain ⟨L, hL⟩ : ∃ L, (l.take i).flatMap textsT = L := ⟨_, rfl⟩
        have hwlen : ws.length ≤ 100000 := by
          have := HWL.out
          obtain ⟨m, e⟩ := take_flat_le textsT l (i + 1)
          rw [e, hst, hws] at this
          simp at this
          omega
        have HWS : Hid (∀ x ∈ L ++ ws, x ≠ [] ∧ x.length ≤ 100000) := by
          intro x hx
          obtain ⟨m, e⟩ := take_flat_le textsT l (i + 1)
          refine HWB.out x ?_
          rw [e, hst, hws, hL]
          exact List.mem_append.2 (.inl hx)
        have HMN : Hid (∀ q, (∃ m, L ++ ws = q ++ m) → (joinL [32] q).length ≤ (textC l).length) := by
          rintro q ⟨m, e⟩
          obtain ⟨m', e'⟩ := take_flat_le textsT l (i + 1)
          unfold textC
          rw [e', hst, hws, hL, e, List.append_assoc]
          exact joinW_mono q _
        have HO : Hid (o = joinL [32] (L ++ ws.take 0)) := by show _ = _; rw [List.take_zero, List.append_nil, ← hL]; exact ho.out
        rw [hws, hL] at HST
        have jl : (i : Int) < (l.length : Int) := by omega
        have j0 : (0 : Int) ≤ (i : Int) := by omega
        obtain ⟨W1, hW1⟩ : ∃ W1, W1 = wr.alloc (.cells #[.int .u8 (x'.kind : Int), .slice pn' x'.names.length kn', .int .u8 (x'.dom : Int), .int .i64 x'.idx, .int .i64 x'.a, .int .i64 x'.b, .slice pi' x'.items.length ki', .int .i64 x'.off] 43) := ⟨_, rfl⟩
        have hb5 : Below wr.heap.size wr W1 := hW1 ▸ held_alloc (Below.refl _ wr)
        have bx5 : Box W1 wr.heap.size #[.int .u8 (x'.kind : Int), .slice pn' x'.names.length kn', .int .u8 (x'.dom : Int), .int .i64 x'.idx, .int .i64 x'.a, .int .i64 x'.b, .slice pi' x'.items.length ki', .int .i64 x'.off] 43 := hW1 ▸ Box.new wr _ _
        have BX5 := Lib.hid bx5
        have HB5 : Hid (Below Z0 w1 W1) := hbl.out.trans (hb5.mono hzr)
        have hbw5 : Below w.heap.size w W1 := hbw.trans (hb5.mono hbw.size)
        have HOWN5 := Lib.hid (hown.out.after hb5)
        have hz5 : Z0 ≤ W1.heap.size := Nat.le_trans hzr hb5.size
        have HC : Hid (Calls Tryz.prog 26 #[.agg #[.int .u8 (x'.kind : Int), .slice pn' x'.names.length kn', .int .u8 (x'.dom : Int), .int .i64 x'.idx, .int .i64 x'.a, .int .i64 x'.b, .slice pi' x'.items.length ki', .int .i64 x'.off]] W1 (RetW W1 ws)) := by
          have := texts_t N D W1 x' _ _ (HasC.fx (S := fun _ => False) (Fx.of_below hb5) (fun _ _ _ e => e) x' hhc) (Nat.le_trans hN hbw5.size) (HE.out.after hbw5) (HT.out.after hbw5) hft (by rw [hws]; exact hwlen)
          rw [hws] at this
          exact this
        clear hhc hmem hst hx' hn' hi' hb5 bx5 hbw5 hft hws hL hca hbr hbw ho hown
        go_upto_region 7 with fail
        rw [← hW1]
        clear hW1 d0 d1 d2 d3 d4 d5 d6 d7
        obtain ⟨d0, d1, d2, d3, d4, d5, d6, d7⟩ := BX5.out.cells8
        have dl := BX5.out.lt
        go_wp2_with fail
        refine HC.out.mono ?_
        rintro e w6 ⟨v6, rfl, hown6, hb6⟩
        have HB6 : Hid (Below Z0 w1 w6) := HB5.out.trans (hb6.mono hz5)
        have hz6 : Z0 ≤ w6.heap.size := Nat.le_trans hz5 hb6.size
        have HOWN6 := Lib.hid (HOWN5.out.after hb6)
        obtain ⟨ZW, hzw⟩ : ∃ z, W1.heap.size = z := ⟨_, rfl⟩
        rw [hzw] at hown6
        have HROW := Lib.hid hown6
        obtain ⟨p6, k6, hp6, k61, k62, _⟩ := hown6.shape
        subst hp6
        clear hown6 hb6 d0 d1 d2 d3 d4 d5 d6 d7 dl BX5 hzw
        have hwli : (ws.length : Int) ≤ 9223372036854775807 := by omega
        go_wp2_with fail
        go_loopg [4, 21] ws.length (fun gn t tj wy => ∃ (j : Nat) (q : List UInt8), j ≤ ws.length ∧ gn = ws.length - j ∧ tj = .int .i64 (j : Int) ∧ Hid (q = joinL [32] (L ++ ws.take j)) ∧ Hid (OwnB wy Z0 t q) ∧ Hid (OwnN wy ZW (.slice p6 ws.length k6) ws) ∧ Hid (Below Z0 w1 wy) ∧ Hid (q.length ≤ 4096 + 200000 * j))
        case atStart => exact ⟨0, o, Nat.zero_le _, rfl, rfl, HO.out, HOWN6.out, HROW.out, HB6.out, by have := hol.out; show _ ≤ _; omega⟩
        case round =>
          clear HO HOWN6 HROW HB6 HC HOWN5
          obtain ⟨j, q, hj, rfl, rfl, hq, hownq, hrow, hblq, hql⟩ := hrel
          obtain ⟨pq, cq, hpq, pq1, pq2⟩ := hownq.out.sh
          subst hpq
          have hszq := hblq.out.size
          have hzq : Z0 ≤ wr.heap.size := Nat.le_trans hz1 hszq
          have hqi : (q.length : Int) ≤ 9223372036854775807 := by omega
          by_cases hjl : j < ws.length
          · obtain ⟨bw, ow, cw, ew, _, _, _, lw, hcw⟩ := hrow.out.slN.2.at_ (by omega)
            injection ew with ew _ ec
            subst ew ec
            have y0 : wr.cell? ⟨bw, ow + j, none⟩ = some (.string (bs (ws.getD j []))) := by have := hcw j hjl 0 (by omega); simpa using this
            have htk : ws.take (j + 1) = ws.take j ++ [ws.getD j []] := by rw [List.take_succ_eq_append_getElem hjl, List.getD_eq_getElem?_getD, List.getElem?_eq_getElem hjl]; rfl
            have hxm : ws.getD j [] ∈ L ++ ws := by rw [List.getD_eq_getElem?_getD, List.getElem?_eq_getElem hjl]; exact List.mem_append.2 (.inr (List.getElem_mem hjl))
            have hall : ∀ x ∈ L ++ ws.take j, x ≠ [] := fun x hx => (HWS.out x (by rcases List.mem_append.1 hx with h | h; exact List.mem_append.2 (.inl h); exact List.mem_append.2 (.inr (List.mem_of_mem_take h)))).1
            obtain ⟨x, hx⟩ : ∃ x, ws.getD j [] = x := ⟨_, rfl⟩
            rw [hx] at y0 htk hxm
            have hxl := (HWS.out x hxm).2
            obtain ⟨K, hK⟩ : ∃ K, L ++ ws.take j = K := ⟨_, rfl⟩
            have HK1 : Hid (L ++ ws.take (j + 1) = K ++ [x]) := by show _ = _; rw [htk, ← List.append_assoc, hK]
            rw [hK] at hq hall
            have HQ := Lib.hid hq.out
            have HQL := Lib.hid hql.out
            have HALL := Lib.hid hall
            have hjw : j ≤ 100000 := by omega
            have hql2 := hql.out
            have jl2 : (j : Int) < (ws.length : Int) := by omega
            have j02 : (0 : Int) ≤ (j : Int) := by omega
            clear hcw htk hxm hx hK hq hall hql
            by_cases hkn : K = []
            · have HKN := Lib.hid hkn
              have hq0 : ¬ 0 < q.length := by rw [HQ.out, hkn]; simp [joinL]
              have q1 : decide (0 < (q.length : Int)) = false := decide_eq_false (by omega)
              have q2 : ¬ (0 : Int) < (q.length : Int) := by omega
              clear hkn
              go_wp2_with (at_builtin; refine wpList_appB rfl _ _ rfl Z0 _ q x rfl hownq.out rfl (by omega) hzq ?_)
              intro v8 w8 hown8 hf8 hb8
              have HOWN8 := Lib.hid hown8
              have HROW8 := Lib.hid (hrow.out.app hownq.out hf8)
              have HB8 : Hid (Below Z0 w1 w8) := hblq.out.trans hb8
              clear hown8 hf8 hb8
              go_wp2_with fail
              go_roundg (ws.length - (j + 1))
              case measure => omega
              case rel =>
                have e0 : q = [] := by have := HQ.out; rw [HKN.out] at this; exact this
                refine ⟨j + 1, q ++ x, by omega, rfl, by go_num, ?_, HOWN8.out, HROW8.out, HB8.out, ?_⟩
                · show _ = _; rw [HK1.out, HKN.out, e0]; rfl
                · show _ ≤ _; rw [List.length_append]; have := HQL.out; omega
            · have HKN := Lib.hid hkn
              have hq0 : 0 < q.length := by rw [HQ.out]; exact joinW_ne K HALL.out hkn
              have q1 : decide (0 < (q.length : Int)) = true := decide_eq_true (by omega)
              have q2 : (0 : Int) < (q.length : Int) := by omega
              clear hkn
              go_wp2_with (at_builtin; refine wpList_appB1 rfl _ _ rfl Z0 _ q 32 wr.heap.size 1 rfl (hownq.out.alloc _) rfl ((Box.new _ _ _).cell 0) ?d3 ?d4 ?_)
              case d3 => omega
              case d4 => first | omega | (simp; omega)
              intro v7 w7 hown7 hf7 hb7
              have HOWN7 := Lib.hid hown7
              have HROW7 := Lib.hid ((hrow.out.alloc _).app (hownq.out.alloc _) hf7)
              have HB7 : Hid (Below Z0 w1 w7) := (hblq.out.alloc hzq _).trans hb7
              have hz7 : Z0 ≤ w7.heap.size := Nat.le_trans hz1 HB7.out.size
              obtain ⟨p7, k7, hp7, k71, k72⟩ := hown7.sh
              subst hp7
              clear hown7 hf7 hb7 y0
              have hl7 : (q ++ [32]).length = q.length + 1 := by simp
              go_wp2_with (at_builtin; refine wpList_appB rfl _ _ rfl Z0 _ (q ++ [32]) x rfl HOWN7.out rfl (by omega) hz7 ?_)
              intro v8 w8 hown8 hf8 hb8
              have HOWN8 := Lib.hid hown8
              have HROW8 := Lib.hid (HROW7.out.app HOWN7.out (by rw [hl7]; exact hf8))
              have HB8 : Hid (Below Z0 w1 w8) := HB7.out.trans hb8
              clear hown8 hf8 hb8 hl7
              go_wp2_with fail
              go_roundg (ws.length - (j + 1))
              case measure => omega
              case rel =>
                refine ⟨j + 1, q ++ 32 :: x, by omega, rfl, by go_num, ?_, HOWN8.out, HROW8.out, HB8.out, ?_⟩
                · show _ = _; rw [HK1.out, joinW_snoc K x HKN.out, ← HQ.out]
                · show _ ≤ _; rw [List.length_append, List.length_cons]; have := HQL.out; omega
          · obtain rfl : j = ws.length := by omega
            have HQ : Hid (q = joinL [32] (L ++ ws)) := by have := hq.out; rw [List.take_length] at this; exact this
            clear hq hjl
            by_cases hbig : 4096 < q.length
            · have HP3 : Hid (pr = ([], 3)) := by
                show _ = _
                rw [HP2.out, if_pos]
                have := HMN.out (L ++ ws) ⟨[], by simp⟩
                rw [← HQ.out] at this
                omega
              have q1 : decide (4096 < (q.length : Int)) = true := decide_eq_true (by omega)
              have q2 : (4096 : Int) < (q.length : Int) := by omega
              have HBE : Hid (Below w.heap.size w wr) := HB1.out.trans (Below.mono (by rw [HZ0.out]; exact hblq.out) hwz)
              clear hbig
              go_wp2_with fail
              go_ret2
              exact ⟨by rw [HP3.out]; rfl, HBE.out⟩
            · have q1 : decide (4096 < (q.length : Int)) = false := decide_eq_false (by omega)
              have q2 : ¬ (4096 : Int) < (q.length : Int) := by omega
              have HSM := Lib.hid (Nat.le_of_not_lt hbig)
              clear hbig
              go_wp2_with fail
              go_roundg (l.length - (i + 1))
              case measure => omega
              case rel => exact ⟨i + 1, q, by omega, rfl, by go_num, by show _ = _; rw [HST.out]; exact HQ.out, HSM.out, hownq.out, hblq.out⟩
      · obtain rfl : i = l.length := by omega
        have HOT : Hid (o = textC l) := by have := ho.out; rw [List.take_length] at this; exact this
        have HP3 : Hid (pr = (o, 0)) := by show _ = _; rw [HP2.out, ← HOT.out, if_neg (by have := hol.out; omega)]
        have hconv := run_str hown.out
        clear hlt ho hol hbr hbw
        go_wp2_with fail
        go_ret2
        exact ⟨by rw [HP3.out]; rfl, HBW.out⟩
end Go.Proofs.YtganlldidjbpiaaGreatDoor
