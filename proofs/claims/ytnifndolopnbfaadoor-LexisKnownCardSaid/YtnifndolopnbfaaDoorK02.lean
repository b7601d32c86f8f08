/- Lexis, memory words: rows of tokens, variables that collect tokens.
   (As XRng2, over the memory words of Lexis.) A range over a function, in general: after r rounds memory is as a relation J r says; the body may write memory. One law for the caller.
   Lexis, plain: what the iterator yields, and how its items make the result of Tokens; the length of a printed text. No program in it.
   Lexis, memory words: a variable that collects tokens in a row of its own; the three results of Tokens. -/
import Derived.Test.YtnifndolopnbfaaDoorK01
import Derived.Test.YtnifndolopnbfaaDoorProg
import Derived.WalkKit
import Derived.WalkLawsBesides
import Derived.WalkSpells
import Derived.Deep.OwnRows
import Derived.Deep.Draws
import Derived.Laws.IdiomStrings
import Derived.RangeFuncNested
import Derived.RangeFuncBound
import Derived.RangeFuncCalls
import Derived.RangeFuncLeaves
import Derived.Shelf.Abstract
set_option linter.unusedVariables false
namespace Go.Proofs.YtnifndolopnbfaaDoor
open Go.RowKit

theorem ret_bool {a b : Bool} (h : a = b) : Ending.returned (.bool a) = .returned (.bool b) := by rw [h]
theorem ret_str {a b : ByteArray} (h : a = b) : Ending.returned (.string a) = .returned (.string b) := by rw [h]
theorem ret_int {k : IntKind} {a b : Int} (h : a = b) : Ending.returned (.int k a) = .returned (.int k b) := by rw [h]
theorem below_drewN (w : World) (n B : Nat) : Below B w (w.drewN n) := ⟨rfl, rfl, rfl, Nat.le_refl _, fun _ _ => rfl⟩
theorem below_dr {B : Nat} {w W : World} (h : Below B w W) : Below B w W.drew := h.trans ⟨rfl, rfl, rfl, Nat.le_refl _, fun _ _ => rfl⟩
theorem held_alloc {B : Nat} {w W : World} {o : Obj} (h : Below B w W) (hB : B ≤ W.heap.size := by omega) : Below B w (W.alloc o) := h.alloc hB o
/-- A cell that was there is still there after calls that leave what was there. -/
theorem keep_cell {W w1 : World} (hb : Below W.heap.size W w1) {b o : Nat} {v : Value} (h : W.cell? ⟨b, o, none⟩ = some v) : w1.cell? ⟨b, o, none⟩ = some v :=
  (hb.cell (p := ⟨b, o, none⟩) (World.block_lt_of_cell? W _ h)).trans h
/-- A block of cells that was there is still there. -/
def Box (w : World) (b : Nat) (cs : Array Value) (t : TypeId) : Prop := w.heap[b]? = some (.cells cs t (0, 0))
section
variable {w w' : World} {b : Nat} {cs : Array Value} {t : TypeId}
theorem Box.new (w : World) (cs : Array Value) (t : TypeId) : Box (w.alloc (.cells cs t)) w.heap.size cs t := heap_alloc_new w _
theorem Box.lt (h : Box w b cs t) : b < w.heap.size := (Array.getElem?_eq_some_iff.1 h).1
theorem Box.after (h : Box w b cs t) (hb : Below w.heap.size w w') : Box w' b cs t := (hb.block b h.lt).trans h
theorem Box.alloc (h : Box w b cs t) (o : Obj) : Box (w.alloc o) b cs t := (Below.heap_alloc w o b h.lt).trans h
theorem Box.cell (h : Box w b cs t) (i : Nat) : w.cell? ⟨b, i, none⟩ = cs[i]? := cell_of_row w b i cs t (0, 0) h
theorem Box.frozen (h : Box w b cs t) (i : Nat) : w.frozen? ⟨b, i, none⟩ = false := by unfold Box at h; simp [World.frozen?, h]
theorem Box.set (h : Box w b cs t) (i : Nat) (u : Value) : Box (w.setCell ⟨b, i, none⟩ u) b (cs.setIfInBounds i u) t := by
  unfold Box at h ⊢
  simp [World.setCell, Array.getElem?_modify, h]
theorem Box.far (h : Box w b cs t) {p : Addr} (hp : b ≠ p.block) (u : Value) : Box (w.setCell p u) b cs t := (Below.heap_setCell w p u b hp).trans h
theorem Box.grown {row : Option Nat} (h : Box w b cs t) (hg : w.grownBy w' row) (hb : some b ≠ row) : Box w' b cs t := (hg.block b h.lt hb).trans h
theorem Box.cells4 {x0 x1 x2 x3 : Value} (h : Box w b #[x0, x1, x2, x3] t) : w.cell? ⟨b, 0, none⟩ = some x0 ∧ w.cell? ⟨b, 1, none⟩ = some x1 ∧ w.cell? ⟨b, 2, none⟩ = some x2 ∧ w.cell? ⟨b, 3, none⟩ = some x3 :=
  ⟨h.cell 0, h.cell 1, h.cell 2, h.cell 3⟩
end
theorem add_off (b off j : Nat) : (⟨b, off, none⟩ : Addr).add j = ⟨b, off + j, none⟩ := by unfold Addr.add; split <;> simp_all

def In64 (z : Int) : Prop := -9223372036854775808 ≤ z ∧ z ≤ 9223372036854775807
/-- A token that Go can hold. -/
def TokOk (t : Tok) : Prop := t.kind < 256 ∧ In64 t.num ∧ In64 t.off ∧ t.text.length ≤ 9223372036854775807
/-- The cells of a token. -/
def cellsOf (t : Tok) : List Value := [.int .u8 (t.kind : Int), .string (bs t.text), .int .i64 t.num, .int .i64 t.off]
def cellsT (ts : List Tok) : List Value := ts.flatMap cellsOf
theorem cellsT_snoc (ts : List Tok) (t : Tok) : cellsT (ts ++ [t]) = cellsT ts ++ cellsOf t := by
  unfold cellsT; rw [List.flatMap_append]; simp
theorem cellsT_len : ∀ ts : List Tok, (cellsT ts).length = ts.length * 4
  | [] => rfl
  | t :: ts => by
    have := cellsT_len ts
    unfold cellsT at this ⊢
    rw [List.flatMap_cons, List.length_append, this]
    simp only [cellsOf, List.length_cons, List.length_nil]
    omega
theorem cellsT_get : ∀ (ts : List Tok) (i : Nat) (t : Tok), ts[i]? = some t → ∀ j, j < 4 → (cellsT ts)[i * 4 + j]? = (cellsOf t)[j]?
  | [], i, t, h, _, _ => by simp at h
  | x :: ts, 0, t, h, j, hj => by
    obtain rfl : x = t := by simpa using h
    unfold cellsT
    rw [List.flatMap_cons, Nat.zero_mul, Nat.zero_add, List.getElem?_append_left (by simpa [cellsOf] using hj)]
  | x :: ts, i + 1, t, h, j, hj => by
    have ih := cellsT_get ts i t (by simpa using h) j hj
    unfold cellsT at ih ⊢
    rw [List.flatMap_cons, List.getElem?_append_right (by simp [cellsOf]; omega), ← ih]
    congr 1
    simp [cellsOf]; omega
/-- Token i of a list. -/
def tok (ts : List Tok) (i : Nat) : Tok := ts.getD i ⟨0, [], 0, 0⟩
theorem tok_get {ts : List Tok} {i : Nat} (h : i < ts.length) : tok ts i = ts[i] := by simp [tok, List.getD, h]
theorem tok_some {ts : List Tok} {i : Nat} (h : i < ts.length) : ts[i]? = some (tok ts i) := by rw [tok_get h, List.getElem?_eq_getElem h]
/-- The slice value v reads as the tokens ts. -/
def SlK (w : World) (v : Value) (ts : List Tok) : Prop :=
  (∀ t ∈ ts, TokOk t) ∧ ∃ (a : Option Addr) (cap : Nat), v = .slice a ts.length cap ∧ ts.length ≤ cap ∧ cap ≤ 9223372036854775807 ∧ (a = none → cap = 0) ∧
    (0 < ts.length → ∃ b off, a = some ⟨b, off, none⟩ ∧ b < w.heap.size ∧ ∀ i, i < ts.length → w.cell? ⟨b, off + i * 4, none⟩ = some (.int .u8 ((tok ts i).kind : Int)) ∧
      w.cell? ⟨b, off + i * 4 + 1, none⟩ = some (.string (bs (tok ts i).text)) ∧ w.cell? ⟨b, off + i * 4 + 2, none⟩ = some (.int .i64 (tok ts i).num) ∧ w.cell? ⟨b, off + i * 4 + 3, none⟩ = some (.int .i64 (tok ts i).off))
section
variable {w w' : World} {v : Value} {ts : List Tok}
theorem SlK.after (h : SlK w v ts) (hb : Below w.heap.size w w') : SlK w' v ts := by
  obtain ⟨h0, a, cap, h1, h2, h3, h5, h6⟩ := h
  refine ⟨h0, a, cap, h1, h2, h3, h5, fun hl => ?_⟩
  obtain ⟨b, off, ha, hlt, hc⟩ := h6 hl
  refine ⟨b, off, ha, Nat.lt_of_lt_of_le hlt hb.size, fun i hi => ?_⟩
  obtain ⟨c0, c1, c2, c3⟩ := hc i hi
  exact ⟨keep_cell hb c0, keep_cell hb c1, keep_cell hb c2, keep_cell hb c3⟩
theorem SlK.nil (w : World) : SlK w (.slice none 0 0) [] := ⟨fun t h => by simp at h, none, 0, rfl, by simp, by omega, fun _ => rfl, fun h => by simp at h⟩
theorem SlK.shape (h : SlK w v ts) : ∃ a cap, v = .slice a ts.length cap ∧ ts.length ≤ cap ∧ cap ≤ 9223372036854775807 ∧ (a = none → cap = 0) := by
  obtain ⟨_, a, cap, h1, h2, h3, h5, _⟩ := h
  exact ⟨a, cap, h1, h2, h3, h5⟩
theorem SlK.at_ (h : SlK w v ts) (hp : 0 < ts.length) : ∃ b off cap, v = .slice (some ⟨b, off, none⟩) ts.length cap ∧ ts.length ≤ cap ∧ cap ≤ 9223372036854775807 ∧ b < w.heap.size ∧ ∀ i, i < ts.length → w.cell? ⟨b, off + i * 4, none⟩ = some (.int .u8 ((tok ts i).kind : Int)) ∧
      w.cell? ⟨b, off + i * 4 + 1, none⟩ = some (.string (bs (tok ts i).text)) ∧ w.cell? ⟨b, off + i * 4 + 2, none⟩ = some (.int .i64 (tok ts i).num) ∧ w.cell? ⟨b, off + i * 4 + 3, none⟩ = some (.int .i64 (tok ts i).off) := by
  obtain ⟨_, a, cap, h1, h2, h3, h5, h6⟩ := h
  obtain ⟨b, off, ha, hlt, hc⟩ := h6 hp
  exact ⟨b, off, cap, by rw [h1, ha], h2, h3, hlt, hc⟩
theorem SlK.ok (h : SlK w v ts) {i : Nat} (hi : i < ts.length) : TokOk (tok ts i) := by rw [tok_get hi]; exact h.1 _ (List.getElem_mem hi)
/-- A part of what a slice reads. -/
theorem SlK.front {a : Option Addr} {len cap : Nat} (h : SlK w (.slice a len cap) ts) (m : Nat) (hm : m ≤ len) : SlK w (.slice a m cap) (ts.take m) := by
  obtain ⟨h0, a', cap', h1, h2, h3, h5, h6⟩ := h
  obtain ⟨rfl, rfl, rfl⟩ : a = a' ∧ len = ts.length ∧ cap = cap' := by injection h1 with e1 e2 e3; exact ⟨e1, e2, e3⟩
  have hl : (ts.take m).length = m := by rw [List.length_take]; omega
  refine ⟨fun t ht => h0 t (List.mem_of_mem_take ht), a, cap, by rw [hl], by rw [hl]; omega, h3, h5, fun hp => ?_⟩
  rw [hl] at hp
  obtain ⟨b, off, e, hlt, hc⟩ := h6 (by omega)
  refine ⟨b, off, e, hlt, fun i hi => ?_⟩
  rw [hl] at hi
  have e2 : tok (ts.take m) i = tok ts i := by unfold tok; simp [List.getD, hi]
  rw [e2]
  exact hc i (by omega)
theorem SlK.back {b off len cap : Nat} (h : SlK w (.slice (some ⟨b, off, none⟩) len cap) ts) (m : Nat) (hm : m ≤ len) : SlK w (.slice (some ⟨b, off + m * 4, none⟩) (len - m) (cap - m)) (ts.drop m) := by
  obtain ⟨h0, a', cap', h1, h2, h3, h5, h6⟩ := h
  obtain ⟨rfl, rfl, rfl⟩ : some ⟨b, off, none⟩ = a' ∧ len = ts.length ∧ cap = cap' := by injection h1 with e1 e2 e3; exact ⟨e1, e2, e3⟩
  have hl : (ts.drop m).length = ts.length - m := List.length_drop
  refine ⟨fun t ht => h0 t (List.mem_of_mem_drop ht), _, _, by rw [hl], by rw [hl]; omega, by omega, (fun h => by cases h), fun hp => ?_⟩
  rw [hl] at hp
  obtain ⟨b', off', e, hlt, hc⟩ := h6 (by omega)
  injection e with e; injection e with e1 e2; subst e1; subst e2
  refine ⟨b, off + m * 4, rfl, hlt, fun i hi => ?_⟩
  rw [hl] at hi
  have e2 : tok (ts.drop m) i = tok ts (m + i) := by unfold tok; simp [List.getD, List.getElem?_drop]
  have e3 : off + m * 4 + i * 4 = off + (m + i) * 4 := by omega
  rw [e2, e3]
  exact hc (m + i) (by omega)
end
theorem grownBy_of_below {w w' : World} (hb : Below w.heap.size w w') : w.grownBy w' none := ⟨hb.os, hb.tape, hb.output, hb.size, fun k hk _ => hb.block k hk⟩
theorem ownsRow_after {w w' : World} {base n size : Nat} {t : TypeId} {v : Value} {xs : List Value} (h : w.ownsRow base t size v n xs) (hb : Below w.heap.size w w') : w'.ownsRow base t size v n xs :=
  h.kept (grownBy_of_below hb) (by cases hv : v.ownBlock <;> simp)
theorem grown_tr {a w w' : World} {row : Option Nat} (h : a.grownBy w row) (k : w.grownBy w' row) : a.grownBy w' row :=
  ⟨k.os.trans h.os, k.tape.trans h.tape, k.output.trans h.output, Nat.le_trans h.size k.size, fun b hb hne => (k.block b (Nat.lt_of_lt_of_le hb h.size) hne).trans (h.block b hb hne)⟩
theorem grown_but {a c : World} (h : a.grownBy c none) (row : Option Nat) : a.grownBy c row := ⟨h.os, h.tape, h.output, h.size, fun i hi _ => h.block i hi (by simp)⟩
theorem grown_below {W1 W W' : World} {row : Option Nat} (h : W1.grownBy W row) (hb : Below W.heap.size W W') : W1.grownBy W' row := grown_tr h (grown_but (grownBy_of_below hb) row)
theorem grown_new {W1 W W' : World} {row r2 : Option Nat} (h : W1.grownBy W row) (hg : W.grownBy W' r2) (hr : ∀ g, r2 = some g → W1.heap.size ≤ g) : W1.grownBy W' row :=
  ⟨hg.os.trans h.os, hg.tape.trans h.tape, hg.output.trans h.output, Nat.le_trans h.size hg.size, fun b hb hne =>
    (hg.block b (Nat.lt_of_lt_of_le hb h.size) (fun e => by have := hr b e.symm; omega)).trans (h.block b hb hne)⟩
theorem grown_set (w : World) (O i : Nat) (u : Value) : w.grownBy (w.setCell ⟨O, i, none⟩ u) (some O) :=
  ⟨rfl, rfl, rfl, by simp [World.setCell], fun b _ hne => Below.heap_setCell w ⟨O, i, none⟩ u b (fun e => hne (by rw [e]))⟩
theorem ownsRow_shape {W : World} {base n size : Nat} {t : TypeId} {v : Value} {xs : List Value} (h : W.ownsRow base t size v n xs) : ∃ p c, v = .slice p n c := by
  rcases h.2 with ⟨rfl, h0⟩ | ⟨g', cap, cur, rfl, _⟩
  · exact ⟨none, 0, by rw [h0]⟩
  · exact ⟨_, _, rfl⟩
theorem SlK.of_own {w : World} {base n : Nat} {t : TypeId} {v : Value} {ts : List Tok} (h : w.ownsRow base t 4 v n (cellsT ts)) (hok : ∀ t ∈ ts, TokOk t) : SlK w v ts := by
  have hn : n = ts.length := by have := h.1; rw [cellsT_len] at this; omega
  subst hn
  rcases h.2 with ⟨rfl, h0⟩ | ⟨g, cap, cur, rfl, _, hg, h3, h4, _, _⟩
  · have : ts = [] := List.length_eq_zero_iff.1 h0
    subst this
    exact SlK.nil w
  · refine ⟨hok, _, cap, rfl, h3, by simpa [maxLen] using h4, (fun h => by cases h), fun _ => ⟨g, 0, rfl, (Array.getElem?_eq_some_iff.1 hg).1, fun i hi => ?_⟩⟩
    have hc := h.cells (g := g) rfl
    have hget := cellsT_get ts i _ (tok_some hi)
    have c0 := hc _ _ ((hget 0 (by omega)).trans rfl)
    have c1 := hc _ _ ((hget 1 (by omega)).trans rfl)
    have c2 := hc _ _ ((hget 2 (by omega)).trans rfl)
    have c3 := hc _ _ ((hget 3 (by omega)).trans rfl)
    rw [add_off] at c0 c1 c2 c3
    exact ⟨c0, c1, c2, c3⟩
theorem infoT : (Tryd.prog.info? 34).map (fun i => (i.zero, i.size, i.bytes)) = some (some (.agg #[.int .u8 0, .string ⟨#[]⟩, .int .i64 0, .int .i64 0]), 4, 40) := by kernel_rfl
end Go.Proofs.YtnifndolopnbfaaDoor

namespace Go.Proofs.YtnifndolopnbfaaDoor
open Go.RowKit

/-- Block l holds no data: the state of a loop, or calls that are put off. -/
def Soft (W : World) (l : Nat) : Prop := (∃ L, W.heap[l]? = some (.loop L)) ∨ ∃ d, W.heap[l]? = some (.deferred d)
theorem Soft.lt {W : World} {l : Nat} (h : Soft W l) : l < W.heap.size := by
  rcases h with ⟨L, h⟩ | ⟨d, h⟩ <;> exact (Array.getElem?_eq_some_iff.1 h).1
theorem Soft.ne_box {W : World} {l b : Nat} {cs : Array Value} {t : TypeId} {fz : Nat × Nat} (h : Soft W l) (hb : W.heap[b]? = some (.cells cs t fz)) : b ≠ l := by
  rintro rfl
  rcases h with ⟨L, h⟩ | ⟨d, h⟩ <;> rw [hb] at h <;> cases h
theorem Soft.cell_ne {W : World} {l b o : Nat} {v : Value} (h : Soft W l) (hc : W.cell? ⟨b, o, none⟩ = some v) : b ≠ l := by
  rintro rfl
  rcases h with ⟨L, h⟩ | ⟨d, h⟩ <;> simp [World.cell?, h] at hc
theorem Box.soft {W W' : World} {l b : Nat} {cs : Array Value} {t : TypeId} (h : Box W b cs t) (hs : Soft W l) (hg : W.grownBy W' (some l)) : Box W' b cs t :=
  (hg.block b h.lt (by intro e; injection e with e; exact hs.ne_box h e)).trans h
theorem cell_soft {W W' : World} {l b o : Nat} {v : Value} (h : W.cell? ⟨b, o, none⟩ = some v) (hs : Soft W l) (hg : W.grownBy W' (some l)) : W'.cell? ⟨b, o, none⟩ = some v :=
  hg.cell h (by intro e; injection e with e; exact hs.cell_ne h e)
theorem putObj_grown2 (W : World) (l : Nat) (o : Obj) : W.grownBy (W.putObj l o) (some l) := grownBy_putObj' W l o
/-- Blocks from B on that hold no data are as they were. -/
def KeepSoft (B : Nat) (w W : World) : Prop := w.heap.size ≤ W.heap.size ∧ ∀ b, B ≤ b → Soft w b → W.heap[b]? = w.heap[b]?
theorem KeepSoft.refl (B : Nat) (w : World) : KeepSoft B w w := ⟨Nat.le_refl _, fun _ _ _ => rfl⟩
theorem KeepSoft.of_below {B : Nat} {w W : World} (h : Below w.heap.size w W) : KeepSoft B w W := ⟨h.size, fun b _ hs => h.block b hs.lt⟩
theorem KeepSoft.soft {B : Nat} {w W : World} (h : KeepSoft B w W) {b : Nat} (hb : B ≤ b) (hs : Soft w b) : Soft W b := by
  have := h.2 b hb hs
  rcases hs with ⟨L, h⟩ | ⟨d, h⟩
  · exact .inl ⟨L, this.trans h⟩
  · exact .inr ⟨d, this.trans h⟩
theorem KeepSoft.trans {B : Nat} {w W V : World} (h : KeepSoft B w W) (k : KeepSoft B W V) : KeepSoft B w V :=
  ⟨Nat.le_trans h.1 k.1, fun b hb hs => (k.2 b hb (h.soft hb hs)).trans (h.2 b hb hs)⟩
theorem KeepSoft.grown {B : Nat} {w W V : World} {row : Option Nat} (h : KeepSoft B w W) (hg : W.grownBy V row) (hr : ∀ g, row = some g → ¬ Soft W g) : KeepSoft B w V := by
  refine h.trans ⟨hg.size, fun b hb hs => hg.block b hs.lt ?_⟩
  intro e
  exact hr b e.symm hs
theorem KeepSoft.setCell {B : Nat} {w W : World} (h : KeepSoft B w W) {b i : Nat} {u : Value} {v : Value} (hc : W.cell? ⟨b, i, none⟩ = some v) : KeepSoft B w (W.setCell ⟨b, i, none⟩ u) := by
  refine h.trans ⟨by simp [World.setCell], fun b' _ hs => Below.heap_setCell W ⟨b, i, none⟩ u b' ?_⟩
  rintro rfl
  exact hs.cell_ne hc rfl
theorem KeepSoft.below {B : Nat} {w W V : World} (h : KeepSoft B w W) (hb : Below W.heap.size W V) : KeepSoft B w V := h.trans (.of_below hb)
/-- Variables that are let alone (Fr says which) are as they were. -/
def KeepF (Fr : World → Nat → Prop) (W W' : World) : Prop := ∀ b cs t, Box W b cs t → Fr W b → Box W' b cs t
/-- How the body of a round may be left. -/
def roundPost (B : Nat) (Fr : World → Nat → Prop) (J X : World → Prop) (w2 : World) : Exit → Act → World → Prop
  | .normal, _, W3 => J W3 ∧ KeepSoft B w2 W3 ∧ KeepF Fr w2 W3
  | .ret, _, W3 => X W3 ∧ KeepSoft B w2 W3
  | _, _, _ => False

theorem wpIn_range_keep {P : Program} {F : Fence} {n : Nat} {g : Operand} {ps : Array Tmp} {assign body : Code} {Q : Exit → Act → World → Prop} {a : Act} {w : World}
    (hro : F.round = none) (h1 : 1 ≤ n) {gf : Nat} {lb : Array Value} (hg : a.eval g = .func (.func gf) #[] lb) (hFg : F.fn gf) (eg : ∀ args w, (callFunc gf args).run P w = .ok (.enter gf args) w)
    (Fr : World → Nat → Prop) (N : Nat) (J : Nat → World → Prop) (V : Nat → Array Value → World → Prop) (X : Nat → World → Prop) (hV : ∀ r args W, V r args W → args.size = ps.size)
    (hJB : ∀ r W, J r W → w.heap.size ≤ W.heap.size)
    (hJb : ∀ r W W', J r W → Below W.heap.size W W' → J r W')
    (hJl : ∀ r W W' l, w.heap.size ≤ l → J r W → Soft W l → W.grownBy W' (some l) → J r W')
    (hF1 : ∀ r W w1 b, J r W → Below W.heap.size W w1 → Fr W b → Fr w1 b)
    (hF2 : ∀ r W W' l b, J r W → Soft W l → W.grownBy W' (some l) → Fr W b → Fr W' b)
    (hJ0 : J 0 w)
    (hiter : ∀ (l : Nat) (W1 : World) (J' Y : Nat → World → Prop), (∀ r W, J' r W → J r W) → (∀ r W W', J' r W → Below W.heap.size W W' → J' r W') → J' 0 W1 →
      (∀ (r : Nat) (args : Array Value) (W : World), r < N → J' r W → V r args W →
        YieldAt F (n - 1 - 1) P l args W fun e W' => (e = .returned (.bool true) ∧ J' (r + 1) W' ∧ KeepF Fr W W') ∨ (e = .returned (.bool false) ∧ Y r W')) →
      CallsIn F (n - 1) P gf (#[.func (.yield l) #[] #[]] ++ lb) W1 fun e W' => (∃ v, e = .returned v) ∧ (J' N W' ∨ ∃ r, r < N ∧ Y r W'))
    (A : Nat → Array Value → Act → World → World → Prop) (hA : ∀ r args a1 W w1, A r args a1 W w1 → Below W.heap.size W w1)
    (hassign : ∀ (l r : Nat) (args : Array Value) (W : World) (K : Act → World → Prop), r < N → J r W → V r args W → (∀ a1 w1, A r args a1 W w1 → K a1 w1) →
      assign.wpIn (F.inRound l) (n - 1 - 1) P (Exit.then K (fun _ _ _ => False)) { tmps := (ps.zip args).foldl (fun t (p, v) => t.setIfInBounds p v) a.tmps, defers := [] } W)
    (hbody : ∀ (l r : Nat) (args : Array Value) (W w1 w2 : World) (a1 : Act), r < N → J r W → V r args W → A r args a1 W w1 → J r w2 → Soft w1 l → l < W.heap.size → w1.grownBy w2 (some l) →
      body.wpIn (F.inRound l) (n - 1 - 1) P (roundPost w.heap.size Fr (J (r + 1)) (X r) w2) a1 w2)
    (hdone : ∀ W, J N W → W.heap[w.heap.size]? = some (.deferred (some [])) → Q .normal { a with defers := { target := .collected w.heap.size, args := #[] } :: a.defers } W)
    (hstop : ∀ (l r : Nat) (W3 W : World), r < N → X r W3 → w.heap.size < l → Soft W3 l → W3.grownBy W (some l) → W.heap[w.heap.size]? = some (.deferred (some [])) →
      Code.ret.wpIn F n P Q { a with defers := { target := .collected w.heap.size, args := #[] } :: a.defers } W) :
    (Code.rangeFunc g ps assign body).wpIn F n P Q a w := by
  refine wpIn_rangeFunc ?_
  intro fn hfn
  rw [hro]
  obtain ⟨rec, hrec⟩ : ∃ rec : LoopState → Option Code → Loop, rec = fun st pe => { state := st, pending := pe, fn, tmps := a.tmps, params := ps, assign, body, defers := w.heap.size } := ⟨_, rfl⟩
  obtain ⟨W1, hW1⟩ : ∃ W1, W1 = (w.alloc (.deferred (some []))).alloc (.loop (rec .ready none)) := ⟨_, rfl⟩
  have hw1 : Below w.heap.size w W1 := hW1 ▸ ((Below.refl _ w).alloc (Nat.le_refl _) _).alloc (by simp) _
  have hl1 : W1.heap[w.heap.size + 1]? = some (.loop (rec .ready none)) := by
    rw [hW1]; have := heap_alloc_new (w.alloc (.deferred (some []))) (.loop (rec .ready none)); rwa [World.size_alloc] at this
  have hd1 : W1.heap[w.heap.size]? = some (.deferred (some [])) := by
    rw [hW1]; exact (Below.heap_alloc _ _ _ (by simp)).trans (heap_alloc_new w _)
  have hs1 : W1.heap.size = w.heap.size + 2 := by rw [hW1]; simp
  refine ⟨w.heap.size + 1, [{ target := .collected w.heap.size, args := #[] }], W1, { target := .fn (.func gf) lb, args := #[.func (.yield (w.heap.size + 1)) #[] #[]] }, W1, gf, #[.func (.yield (w.heap.size + 1)) #[] #[]] ++ lb, W1, ?_, ?_, ?_, ?_, fun _ => h1, ?_⟩
  · rw [hW1, hrec]; exact run_enterLoop_outer _ _ _ _ _
  · simp only [resolve, hg]
    simp [go_sem]
  · intro f' hf'; simp [Target.leads] at hf'; subst hf'; exact hFg
  · simp [invoke, go_sem, eg]
  · refine (hiter (w.heap.size + 1) W1 (fun r W => J r W ∧ W.heap[w.heap.size + 1]? = some (.loop (rec .ready none)) ∧ W.heap[w.heap.size]? = some (.deferred (some [])))
      (fun r W' => ∃ W3, X r W3 ∧ W3.heap[w.heap.size + 1]? = some (.loop (rec .busy none)) ∧ W3.heap[w.heap.size]? = some (.deferred (some [])) ∧ W' = W3.putObj (w.heap.size + 1) (.loop (rec .done (some .ret)))) (fun r W h => h.1) ?_ ⟨hJb _ _ _ hJ0 hw1, hl1, hd1⟩ ?_).mono ?_
    · rintro r W W' ⟨h, hl, hd⟩ hb
      exact ⟨hJb _ _ _ h hb, (hb.block _ (Array.getElem?_eq_some_iff.1 hl).1).trans hl, (hb.block _ (Array.getElem?_eq_some_iff.1 hd).1).trans hd⟩
    · -- a round
      rintro r args W hr ⟨hj, hl, hd⟩ hv
      have hsz := hJB _ _ hj
      have hlt := (Array.getElem?_eq_some_iff.1 hl).1
      have hy := run_yield (P := P) (args := args) hl (by rw [hrec]; exact hV _ _ _ hv)
      rw [hrec] at hy
      refine ⟨fn, _, assign, body, hy, roundIn_of_wpIn hfn (hassign _ r args W _ hr hj hv ?_)⟩
      intro a1 w1 ha
      have hbw1 := hA _ _ _ _ _ ha
      have hlw1 : w1.heap[w.heap.size + 1]? = some (.loop (rec .ready none)) := (hbw1.block _ (by omega)).trans hl
      have hdw1 : w1.heap[w.heap.size]? = some (.deferred (some [])) := (hbw1.block _ (by omega)).trans hd
      have hsw1 := hbw1.size
      have hbr := run_beginRound (P := P) hlw1 (by rw [hrec])
      refine ⟨_, hbr, ?_⟩
      have hrb : ({ rec .ready none with state := .busy } : Loop) = rec .busy none := by rw [hrec]
      rw [hrb]
      have hl2 : (w1.putObj (w.heap.size + 1) (.loop (rec .busy none))).heap[w.heap.size + 1]? = some (.loop (rec .busy none)) := World.putObj_heap_same (by omega)
      have hd2 : (w1.putObj (w.heap.size + 1) (.loop (rec .busy none))).heap[w.heap.size]? = some (.deferred (some [])) := (World.putObj_heap_other (by omega)).trans hdw1
      have hj2 : J r (w1.putObj (w.heap.size + 1) (.loop (rec .busy none))) := hJl _ _ _ _ (by omega) (hJb _ _ _ hj hbw1) (.inl ⟨_, hlw1⟩) (putObj_grown2 _ _ _)
      refine wpIn_mono (hbody _ r args W w1 _ a1 hr hj hv ha hj2 (.inl ⟨_, hlw1⟩) (by omega) (putObj_grown2 _ _ _)) ?_
      rintro e a3 W3 hp
      cases e with
      | normal =>
        obtain ⟨hc, hk3, hkf⟩ := hp
        have hl3 : W3.heap[w.heap.size + 1]? = some (.loop (rec .busy none)) := (hk3.2 _ (by omega) (.inl ⟨_, hl2⟩)).trans hl2
        have hd3 : W3.heap[w.heap.size]? = some (.deferred (some [])) := (hk3.2 _ (by omega) (.inr ⟨_, hd2⟩)).trans hd2
        have her := run_endRound (P := P) none hl3
        refine ⟨_, _, her, .inl ⟨rfl, ⟨?_, ?_, ?_⟩, ?_⟩⟩
        · exact hJl _ _ _ _ (by omega) hc (.inl ⟨_, hl3⟩) (putObj_grown2 _ _ _)
        · have hre : ({ rec .busy none with state := if (none : Option Code).isNone then .ready else .done, pending := none } : Loop) = rec .ready none := by rw [hrec]; rfl
          rw [hre]
          exact World.putObj_heap_same (Array.getElem?_eq_some_iff.1 hl3).1
        · exact (World.putObj_heap_other (by omega)).trans hd3
        · intro b cs t hbx hfr
          have f1 := hF1 r W w1 b hj hbw1 hfr
          have f2 := hF2 r w1 _ _ b (hJb _ _ _ hj hbw1) (.inl ⟨_, hlw1⟩) (putObj_grown2 w1 (w.heap.size + 1) (.loop (rec .busy none))) f1
          have b2 := (hbx.after hbw1).soft (.inl ⟨_, hlw1⟩) (putObj_grown2 w1 (w.heap.size + 1) (.loop (rec .busy none)))
          exact (hkf b cs t b2 f2).soft (.inl ⟨_, hl3⟩) (putObj_grown2 W3 _ _)
      | ret =>
        obtain ⟨hx, hk3⟩ := hp
        have hl3 : W3.heap[w.heap.size + 1]? = some (.loop (rec .busy none)) := (hk3.2 _ (by omega) (.inl ⟨_, hl2⟩)).trans hl2
        have hd3 : W3.heap[w.heap.size]? = some (.deferred (some [])) := (hk3.2 _ (by omega) (.inr ⟨_, hd2⟩)).trans hd2
        have her := run_endRound (P := P) (some .ret) hl3
        refine ⟨_, _, her, .inr ⟨rfl, W3, hx, hl3, hd3, ?_⟩⟩
        rw [hrec]; rfl
      | exit id => exact hp.elim
      | goto t => exact hp.elim
      | panic ch => exact hp.elim
      | outgrown => exact hp.elim
    · -- behind the iterator
      rintro e W2 ⟨⟨v, rfl⟩, (⟨hj, hl, hd⟩ | ⟨r, hr, W3, hx, hl3, hd3, rfl⟩)⟩
      · have hel := run_endLoop (P := P) hl (by rw [hrec]; simp)
        have hpe : (rec .ready none).pending = none := by rw [hrec]
        rw [hpe] at hel
        exact ⟨none, _, hel, hdone _ (hJl _ _ _ _ (by omega) hj (.inl ⟨_, hl⟩) (putObj_grown2 _ _ _)) ((World.putObj_heap_other (by omega)).trans hd)⟩
      · have hsl := (Array.getElem?_eq_some_iff.1 hl3).1
        have hl4 : (W3.putObj (w.heap.size + 1) (.loop (rec .done (some .ret)))).heap[w.heap.size + 1]? = some (.loop (rec .done (some .ret))) := World.putObj_heap_same hsl
        have hel := run_endLoop (P := P) hl4 (by rw [hrec]; simp)
        have hpe : (rec .done (some .ret)).pending = some .ret := by rw [hrec]
        rw [hpe] at hel
        refine ⟨some .ret, _, hel, hstop (w.heap.size + 1) r W3 _ hr hx (by omega) (.inl ⟨_, hl3⟩) ?_ ?_⟩
        · refine ⟨rfl, rfl, rfl, by simp, fun j hj hne => ?_⟩
          rw [World.putObj_heap_other (fun e => hne (by rw [e])), World.putObj_heap_other (fun e => hne (by rw [e]))]
        · rw [World.putObj_heap_other (by omega), World.putObj_heap_other (by omega)]
          exact hd3
end Go.Proofs.YtnifndolopnbfaaDoor

namespace Go.Proofs.YtnifndolopnbfaaDoor

/-- At the start of a token nothing idle stands in front. -/
theorem items_skip (o : Nat) (l : List UInt8) : items o l = items (o + idleN l) (l.drop (idleN l)) := by
  have hd := idleN_drop l
  have hs := skp_skp false l
  have h0 : idleN (l.drop (idleN l)) = 0 := by
    show (l.drop (idleN l)).length - (skp false (l.drop (idleN l))).length = 0
    rw [hd, hs]; omega
  cases h : skp false l with
  | nil =>
    rw [items_nil h, hd, h]
    exact (items_nil (skp_nil false)).symm
  | cons c m =>
    have h2 : skp false (l.drop (idleN l)) = c :: m := by rw [hd, hs, h]
    by_cases he : (fst1 (c :: m)).2 = 0
    · rw [items_cons h he, items_cons h2 he, h0]; rfl
    · rw [items_bad h he, items_bad h2 he, h0]; rfl
/-- Where a token stands, or nothing is left. -/
def Here (l : List UInt8) : Prop := skp false l = l
theorem here_drop (l : List UInt8) : Here (l.drop (idleN l)) := by unfold Here; rw [idleN_drop]; exact skp_skp false l
theorem here_idle {l : List UInt8} (h : Here l) : idleN l = 0 := by unfold Here at h; unfold idleN; rw [h]; omega
theorem here_cons {o : Nat} {c : UInt8} {m : List UInt8} (h : Here (c :: m)) (he : (fst1 (c :: m)).2 = 0) :
    items o (c :: m) = ((fst1 (c :: m)).1.at_ (o : Int), 0) :: items (o + (fst1 (c :: m)).1.text.length) ((c :: m).drop (fst1 (c :: m)).1.text.length) := by
  rw [items_cons h he, here_idle h]; rfl
theorem here_bad {o : Nat} {c : UInt8} {m : List UInt8} (h : Here (c :: m)) (he : (fst1 (c :: m)).2 ≠ 0) :
    items o (c :: m) = [((fst1 (c :: m)).1.at_ (o : Int), (fst1 (c :: m)).2)] := by
  rw [items_bad h he, here_idle h]; rfl
theorem here_nil (o : Nat) : items o [] = [] := items_nil (skp_nil false)
theorem fst1_kind (l : List UInt8) : (fst1 l).1.kind ≤ 3 := by
  cases l with
  | nil => exact Nat.zero_le _
  | cons c m =>
    rw [fst1]
    split
    · split <;> simp [badT]
    · split
      · split
        · simp [badT]
        · split <;> simp [badT]
      · split <;> simp [badT]
theorem fst1_err (l : List UInt8) : (fst1 l).2 = 0 ∨ (fst1 l).2 = 3 ∨ (fst1 l).2 = 4 := by
  cases l with
  | nil => exact .inr (.inr rfl)
  | cons c m =>
    rw [fst1]
    split
    · split
      · exact .inr (.inl rfl)
      · exact .inl rfl
    · split
      · split
        · exact .inr (.inr rfl)
        · split
          · exact .inr (.inl rfl)
          · exact .inl rfl
      · split
        · exact .inl rfl
        · exact .inr (.inr rfl)
theorem fst1_bad {l : List UInt8} (h : (fst1 l).2 ≠ 0) : (fst1 l).1 = ⟨0, [], 0, 0⟩ := by
  cases l with
  | nil => rfl
  | cons c m =>
    rw [fst1] at h ⊢
    split
    · next h1 =>
      rw [if_pos h1] at h
      split
      · rfl
      · next h2 => rw [if_neg h2] at h; exact (h rfl).elim
    · next h1 =>
      rw [if_neg h1] at h
      split
      · next h2 =>
        rw [if_pos h2] at h
        split
        · rfl
        · next h3 =>
          rw [if_neg h3] at h
          split
          · rfl
          · next h4 => rw [if_neg h4] at h; exact (h rfl).elim
      · next h2 =>
        rw [if_neg h2] at h
        split
        · next h3 => rw [if_pos h3] at h; exact (h rfl).elim
        · rfl
theorem fst1_num (l : List UInt8) : 0 ≤ (fst1 l).1.num ∧ (fst1 l).1.num < 1000000000 := by
  cases l with
  | nil => exact ⟨by decide, by decide⟩
  | cons c m =>
    rw [fst1]
    split
    · split <;> exact ⟨by simp [badT], by simp [badT]⟩
    · split
      · split
        · exact ⟨by simp [badT], by simp [badT]⟩
        · split
          · exact ⟨by simp [badT], by simp [badT]⟩
          · next h =>
            have h1 := numV_lt _ (runN_take isDig (c :: m))
            have h2 := runN_le isDig (c :: m)
            have h3 : ((c :: m).take (runN isDig (c :: m))).length ≤ 9 := by rw [List.length_take]; omega
            have h4 : 10 ^ ((c :: m).take (runN isDig (c :: m))).length ≤ 10 ^ 9 := Nat.pow_le_pow_right (by omega) h3
            refine ⟨Int.natCast_nonneg _, ?_⟩
            show ((numV ((c :: m).take (runN isDig (c :: m))) : Nat) : Int) < 1000000000
            omega
      · split <;> exact ⟨by simp [badT], by simp [badT]⟩
/-- A right token's text has at most 12 bytes. -/
theorem fst1_len {l : List UInt8} (h : (fst1 l).2 = 0) : (fst1 l).1.text.length ≤ 12 := by
  cases l with
  | nil => cases h
  | cons c m =>
    rw [fst1] at h ⊢
    split
    · next h1 =>
      rw [if_pos h1] at h
      split
      · simp [badT]
      · show (List.take _ _).length ≤ 12
        rw [List.length_take]; omega
    · next h1 =>
      rw [if_neg h1] at h
      split
      · next h2 =>
        rw [if_pos h2] at h
        split
        · simp [badT]
        · split
          · simp [badT]
          · show (List.take _ _).length ≤ 12
            rw [List.length_take]; omega
      · split <;> simp [badT]
theorem rightT_len {t : Tok} (h : rightT t) : t.text.length ≤ 12 := by
  have := fst1_len h.2.1
  rwa [h.2.2.2.1] at this
theorem sum_len_take (ts : List (List UInt8)) (k : Nat) (h : k < ts.length) : ((ts.take (k + 1)).map List.length).sum = ((ts.take k).map List.length).sum + ts[k].length := by
  rw [List.take_succ_eq_append_getElem h, List.map_append, List.sum_append]; simp
theorem sum_len_le (ts : List (List UInt8)) (h : ∀ t ∈ ts, t.length ≤ 12) : (ts.map List.length).sum ≤ 12 * ts.length := by
  induction ts with
  | nil => simp
  | cons t ts ih =>
    have h1 := h t (by simp)
    have h2 := ih (fun x hx => h x (by simp [hx]))
    simp only [List.map_cons, List.sum_cons, List.length_cons]
    omega
theorem printF_bad {ts : List Tok} {t : Tok} (h : t ∈ ts) (hr : ¬ rightT t) : printF ts = ([], 1) := by
  unfold printF; rw [if_neg (fun hh => hr (hh t h))]
theorem printF_long {ts : List Tok} (h : ∀ t ∈ ts, rightT t) (hl : 4096 < (joinL [32] (ts.map Tok.text)).length) : printF ts = ([], 3) := by
  unfold printF; rw [if_pos h, if_pos hl]
theorem printF_ok {ts : List Tok} (h : ∀ t ∈ ts, rightT t) (hl : ¬ 4096 < (joinL [32] (ts.map Tok.text)).length) : printF ts = (joinL [32] (ts.map Tok.text), 0) := by
  unfold printF; rw [if_pos h, if_neg hl]
theorem toksF_ok {l : List UInt8} (h : ¬ 4096 < l.length) : toksF l = fin (items 0 l) [] := by unfold toksF; rw [if_neg h]
theorem toksF_long {l : List UInt8} (h : 4096 < l.length) : toksF l = ([], 4096, 3) := by unfold toksF; rw [if_pos h]
end Go.Proofs.YtnifndolopnbfaaDoor

namespace Go.Proofs.YtnifndolopnbfaaDoor
open Go.RowKit

theorem ownsRow_soft {W W' : World} {base n size l : Nat} {t : TypeId} {v : Value} {xs : List Value} (h : W.ownsRow base t size v n xs) (hs : Soft W l) (hg : W.grownBy W' (some l)) : W'.ownsRow base t size v n xs := by
  refine h.kept hg ?_
  rcases h.2 with ⟨rfl, _⟩ | ⟨g, cap, cur, rfl, _, hb, _⟩
  · exact .inl rfl
  · refine .inr ?_
    intro e
    simp [Value.ownBlock] at e
    exact hs.ne_box hb e
theorem ownsRow_ge {W : World} {base n size : Nat} {t : TypeId} {v : Value} {xs : List Value} (h : W.ownsRow base t size v n xs) : ∀ g, v.ownBlock = some g → base ≤ g ∧ ¬ Soft W g := by
  intro g hg
  rcases h.2 with ⟨rfl, _⟩ | ⟨g', cap, cur, rfl, hle, hb, _⟩
  · cases hg
  · obtain rfl : g' = g := by simpa [Value.ownBlock] using hg
    exact ⟨hle, fun hs => hs.ne_box hb rfl⟩
theorem cell_four {w : World} {a b c d : Value} {t : TypeId} : ∀ j x, [a, b, c, d][j]? = some x → (w.alloc (.cells #[a, b, c, d] t)).cell? ((⟨w.heap.size, 0, none⟩ : Addr).add j) = some x := by
  intro j x hx
  have hb := Box.new w #[a, b, c, d] t
  rw [add_off, hb.cell]
  match j, hx with
  | 0, hx => simpa using hx
  | 1, hx => simpa using hx
  | 2, hx => simpa using hx
  | 3, hx => simpa using hx
/-- Variable O collects tokens in a row of its own, made since world W1; nothing else of W1 has turned. -/
def OutK (W1 : World) (O k : Nat) (ts : List Tok) (W : World) : Prop :=
  ∃ p n c, Box W O #[.slice p n c] 22 ∧ W.ownsRow W1.heap.size 34 4 (.slice p n c) k (cellsT ts) ∧ W1.grownBy W (some O)
theorem OutK.after {W1 W W' : World} {O k : Nat} {ts : List Tok} (h : OutK W1 O k ts W) (hb : Below W.heap.size W W') : OutK W1 O k ts W' := by
  obtain ⟨p, n, c, h1, h2, h3⟩ := h
  exact ⟨p, n, c, h1.after hb, ownsRow_after h2 hb, grown_below h3 hb⟩
theorem OutK.soft {W1 W W' : World} {O k s : Nat} {ts : List Tok} (h : OutK W1 O k ts W) (hs : Soft W s) (hle : W1.heap.size ≤ s) (hg : W.grownBy W' (some s)) : OutK W1 O k ts W' := by
  obtain ⟨p, n, c, h1, h2, h3⟩ := h
  exact ⟨p, n, c, h1.soft hs hg, ownsRow_soft h2 hs hg, grown_new h3 hg (fun g e => by injection e with e; omega)⟩
/-- One token more: a new row behind an append, and the store of it. -/
theorem OutK.push {W1 w3 w5 : World} {O k : Nat} {ts : List Tok} {p : Option Addr} {n c : Nat} {x : Tok} {v' : Value} {t : TypeId} (hO : O < W1.heap.size) (hbo : Box w3 O #[.slice p n c] 22) (hown : w3.ownsRow W1.heap.size 34 4 (.slice p n c) k (cellsT ts)) (hg : W1.grownBy w3 (some O))
    (hown' : w5.ownsRow W1.heap.size 34 4 v' (k + 1) (cellsT ts ++ cellsOf x)) {cs : Array Value} (hgr : (w3.alloc (.cells cs t)).grownBy w5 (Value.slice p n c).ownBlock) :
    Box w5 O #[.slice p n c] 22 ∧ OutK W1 O (k + 1) (ts ++ [x]) (w5.setCell ⟨O, 0, none⟩ v') ∧ KeepSoft W1.heap.size w3 (w5.setCell ⟨O, 0, none⟩ v') := by
  have hge := ownsRow_ge (hown.alloc (.cells cs t))
  have hge' := ownsRow_ge hown'
  have b5 : Box w5 O #[.slice p n c] 22 := (hbo.alloc _).grown hgr (by intro e; have := (hge O e.symm).1; omega)
  obtain ⟨p', c', rfl⟩ := ownsRow_shape hown'
  refine ⟨b5, ⟨p', _, c', by simpa using b5.set 0 (.slice p' (k + 1) c'), ?_, ?_⟩, ?_⟩
  · rw [cellsT_snoc]
    refine hown'.kept (grown_set w5 O 0 _) ?_
    cases hb : (Value.slice p' (k + 1) c').ownBlock with
    | none => exact .inl rfl
    | some g => exact .inr (by intro e; injection e with e; have := (hge' g hb).1; omega)
  · exact grown_tr (grown_new (grown_tr hg (World.grownBy_alloc w3 _ (some O))) hgr (fun g e => (hge g e).1)) (grown_set w5 O 0 _)
  · exact (((KeepSoft.refl W1.heap.size w3).below (held_alloc (Below.refl _ w3))).grown hgr (fun g e => (hge g e).2)).setCell (b5.cell 0)
/-- The three results' variables, at D and behind it, are written. -/
def ResK (w : World) (D : Nat) (r : List Tok × Int × Nat) (W : World) : Prop := ∃ v, Box W D #[v] 22 ∧ Box W (D + 1) #[.int .i64 r.2.1] 3 ∧ Box W (D + 2) #[.int .i64 ((r.2.2 : Nat) : Int)] 23 ∧ SlK W v r.1 ∧ Below w.heap.size w W
/-- The result is tokens, an offset and an error. -/
def RetK (w : World) (r : List Tok × Int × Nat) (e : Ending) (w' : World) : Prop := ∃ v, e = .returned (.tuple #[v, .int .i64 r.2.1, .int .i64 ((r.2.2 : Nat) : Int)]) ∧ SlK w' v r.1 ∧ Below w.heap.size w w'
theorem SlK.soft {w w' : World} {v : Value} {ts : List Tok} {l : Nat} (h : SlK w v ts) (hs : Soft w l) (hg : w.grownBy w' (some l)) : SlK w' v ts := by
  obtain ⟨h0, a, cap, h1, h2, h3, h5, h6⟩ := h
  refine ⟨h0, a, cap, h1, h2, h3, h5, fun hl => ?_⟩
  obtain ⟨b, off, ha, hlt, hc⟩ := h6 hl
  refine ⟨b, off, ha, Nat.lt_of_lt_of_le hlt hg.size, fun i hi => ?_⟩
  obtain ⟨c0, c1, c2, c3⟩ := hc i hi
  exact ⟨cell_soft c0 hs hg, cell_soft c1 hs hg, cell_soft c2 hs hg, cell_soft c3 hs hg⟩
theorem ResK.soft {w W W' : World} {D n : Nat} {r : List Tok × Int × Nat} (h : ResK w D r W) (hs : Soft W n) (hn : w.heap.size ≤ n) (hg : W.grownBy W' (some n)) : ResK w D r W' := by
  obtain ⟨v, h1, h2, h3, h4, h5⟩ := h
  exact ⟨v, h1.soft hs hg, h2.soft hs hg, h3.soft hs hg, h4.soft hs hg, h5.grown hg h5.size (fun g e => by injection e with e; omega)⟩
theorem ownsRow_set {W : World} {base n size O i : Nat} {t : TypeId} {v u : Value} {xs : List Value} (h : W.ownsRow base t size v n xs) (hO : O < base) : (W.setCell ⟨O, i, none⟩ u).ownsRow base t size v n xs := by
  refine h.kept (grown_set W O i u) ?_
  cases hb : v.ownBlock with
  | none => exact .inl rfl
  | some g => exact .inr (by intro e; injection e with e; have := (ownsRow_ge h g hb).1; omega)
theorem resK_store {w W : World} {D B n : Nat} {x0 x1 x2 v : Value} {ts : List Tok} (hD : Box W D #[x0] 22) (hA : Box W (D + 1) #[x1] 3) (hE : Box W (D + 2) #[x2] 23) (hown : W.ownsRow B 34 4 v n (cellsT ts)) (hok : ∀ t ∈ ts, TokOk t)
    (hDB : D + 2 < B) (hle : w.heap.size ≤ D) (hb : Below w.heap.size w W) (a : Int) (e : Nat) : ResK w D (ts, a, e) (((W.setCell ⟨D, 0, none⟩ v).setCell ⟨D + 1, 0, none⟩ (.int .i64 a)).setCell ⟨D + 2, 0, none⟩ (.int .i64 ((e : Nat) : Int))) := by
  refine ⟨v, ?_, ?_, ?_, ?_, ((hb.setCell (p := ⟨D, 0, none⟩) hle _).setCell (p := ⟨D + 1, 0, none⟩) (Nat.le_succ_of_le hle) _).setCell (p := ⟨D + 2, 0, none⟩) (by show _ ≤ D + 2; omega) _⟩
  · have := ((hD.set 0 v).far (p := ⟨D + 1, 0, none⟩) (by simp) (.int .i64 a)).far (p := ⟨D + 2, 0, none⟩) (by simp) (.int .i64 ((e : Nat) : Int))
    simpa using this
  · have := ((hA.far (p := ⟨D, 0, none⟩) (by simp) v).set 0 (.int .i64 a)).far (p := ⟨D + 2, 0, none⟩) (by simp) (.int .i64 ((e : Nat) : Int))
    simpa using this
  · have := ((hE.far (p := ⟨D, 0, none⟩) (by simp) v).far (p := ⟨D + 1, 0, none⟩) (by simp) (.int .i64 a)).set 0 (.int .i64 ((e : Nat) : Int))
    simpa using this
  · exact SlK.of_own (ownsRow_set (ownsRow_set (ownsRow_set hown (by omega)) (by omega)) (by omega)) hok
theorem resK_keep {w2 W : World} {B D : Nat} {x0 x1 x2 : Value} (hD : Box W D #[x0] 22) (hA : Box W (D + 1) #[x1] 3) (hE : Box W (D + 2) #[x2] 23) (hk : KeepSoft B w2 W) (a b c : Value) :
    KeepSoft B w2 (((W.setCell ⟨D, 0, none⟩ a).setCell ⟨D + 1, 0, none⟩ b).setCell ⟨D + 2, 0, none⟩ c) := by
  refine ((hk.setCell (v := x0) (hD.cell 0)).setCell (v := x1) ?_).setCell (v := x2) ?_
  · exact (hA.far (p := ⟨D, 0, none⟩) (by simp) a).cell 0
  · exact ((hE.far (p := ⟨D, 0, none⟩) (by simp) a).far (p := ⟨D + 1, 0, none⟩) (by simp) b).cell 0
end Go.Proofs.YtnifndolopnbfaaDoor
