/- Journal, memory words: what is kept where a set of blocks may turn; rows of k cells that grow.
   Journal, walks of the package: number, parsed, the index of a word.
   Journal, walks of the package: the taker's two closures. -/
import Derived.Test.YtpaoeeamlinaaaaGreatDoorK06
import Derived.Test.YtpaoeeamlinaaaaGreatDoorK03
set_option linter.unusedVariables false
namespace Go.Proofs.YtpaoeeamlinaaaaGreatDoor
open Go.RowKit

/-- Of the blocks that were there, only those in S may have turned. -/
structure Fx (S : Nat → Prop) (w W : World) : Prop where
  os : W.os = w.os
  tape : W.tape = w.tape
  output : W.output = w.output
  size : w.heap.size ≤ W.heap.size
  block : ∀ b, b < w.heap.size → ¬ S b → W.heap[b]? = w.heap[b]?
section
variable {S : Nat → Prop} {w W W' : World}
theorem Fx.refl (S : Nat → Prop) (w : World) : Fx S w w := ⟨rfl, rfl, rfl, Nat.le_refl _, fun _ _ _ => rfl⟩
theorem Fx.of_below (h : Below w.heap.size w W) : Fx S w W := ⟨h.os, h.tape, h.output, h.size, fun b hb _ => h.block b hb⟩
theorem Fx.trans (h : Fx S w W) (k : Fx S W W') : Fx S w W' :=
  ⟨k.os.trans h.os, k.tape.trans h.tape, k.output.trans h.output, Nat.le_trans h.size k.size, fun b hb hs => (k.block b (Nat.lt_of_lt_of_le hb h.size) hs).trans (h.block b hb hs)⟩
theorem Fx.mono {T : Nat → Prop} (h : Fx S w W) (hT : ∀ b, S b → T b) : Fx T w W := ⟨h.os, h.tape, h.output, h.size, fun b hb hs => h.block b hb fun h => hs (hT b h)⟩
theorem Fx.below (h : Fx S w W) (hb : Below W.heap.size W W') : Fx S w W' := h.trans (Fx.of_below hb)
theorem Fx.new {T : Nat → Prop} (h : Fx S w W) (k : Fx T W W') (hT : ∀ b, T b → S b ∨ w.heap.size ≤ b) : Fx S w W' :=
  ⟨k.os.trans h.os, k.tape.trans h.tape, k.output.trans h.output, Nat.le_trans h.size k.size, fun b hb hs => (k.block b (Nat.lt_of_lt_of_le hb h.size) (fun e => (hT b e).elim hs (fun e => by omega))).trans (h.block b hb hs)⟩
theorem Fx.toBelow {B : Nat} (h : Fx S w W) (hB : B ≤ w.heap.size) (hS : ∀ b, S b → B ≤ b) : Below B w W :=
  ⟨h.os, h.tape, h.output, h.size, fun b hb => h.block b (by omega) fun hs => by have := hS b hs; omega⟩
theorem Fx.grown {row : Option Nat} (h : w.grownBy W row) : Fx (fun b => some b = row) w W := ⟨h.os, h.tape, h.output, h.size, fun b hb hs => h.block b hb hs⟩
theorem Fx.cell {b o : Nat} {v : Value} (hf : Fx S w W) (h : w.cell? ⟨b, o, none⟩ = some v) (hb : ¬ S b) : W.cell? ⟨b, o, none⟩ = some v :=
  (World.cell?_of_block (hf.block b (World.block_lt_of_cell? w ⟨b, o, none⟩ h) hb)).trans h
theorem Box.fx {b : Nat} {cs : Array Value} {t : TypeId} (h : Box w b cs t) (hf : Fx S w W) (hb : ¬ S b) : Box W b cs t := (hf.block b h.lt hb).trans h
theorem Fx.set (w : World) (b o : Nat) (u : Value) : Fx (fun g => g = b) w (w.setCell ⟨b, o, none⟩ u) :=
  ⟨rfl, rfl, rfl, by simp [World.setCell], fun k hk hs => Below.heap_setCell w ⟨b, o, none⟩ u k hs⟩
theorem Fx.alloc (h : Fx S w W) (o : Obj) : Fx S w (W.alloc o) := h.below ((Below.refl _ _).alloc (Nat.le_refl _) o)
theorem Fx.drew (h : Fx S w W) : Fx S w W.drew := ⟨h.os, h.tape, h.output, h.size, h.block⟩
end
/-- Block b is of type t. -/
def TagB (w : World) (b : Nat) (t : TypeId) : Prop := ∃ cs fz, w.heap[b]? = some (.cells cs t fz)
theorem TagB.lt {w : World} {b : Nat} {t : TypeId} (h : TagB w b t) : b < w.heap.size := by obtain ⟨_, _, h⟩ := h; exact (Array.getElem?_eq_some_iff.1 h).1
theorem TagB.one {w : World} {b : Nat} {t t' : TypeId} (h : TagB w b t) (k : TagB w b t') : t = t' := by
  obtain ⟨_, _, h⟩ := h
  obtain ⟨_, _, k⟩ := k
  rw [h] at k
  injection k with k
  injection k
theorem Box.tag {w : World} {b : Nat} {cs : Array Value} {t : TypeId} (h : Box w b cs t) : TagB w b t := ⟨_, _, h⟩
/-- None of the blocks in S is of type t. -/
def NoT (S : Nat → Prop) (w : World) (t : TypeId) : Prop := ∀ b, S b → ¬ TagB w b t
/-- The slice v lies in a block of type t. -/
def TagV (w : World) (v : Value) (t : TypeId) : Prop := ∀ a n c, v = .slice (some a) n c → TagB w a.block t
theorem TagV.nil (w : World) (t : TypeId) : TagV w (.slice none 0 0) t := fun a n c h => by cases h
section
variable {S : Nat → Prop} {w W : World} {v : Value} {t : TypeId}
theorem TagB.fx {b : Nat} (h : TagB w b t) (hf : Fx S w W) (hb : ¬ S b) : TagB W b t := by
  obtain ⟨cs, fz, h1⟩ := h
  exact ⟨cs, fz, (hf.block b (Array.getElem?_eq_some_iff.1 h1).1 hb).trans h1⟩
theorem TagV.fx (h : TagV w v t) (hf : Fx S w W) (hn : NoT S w t) : TagV W v t := fun a n c e => (h a n c e).fx hf fun hs => hn _ hs (h a n c e)
theorem SlC.fx {n k : Nat} {f : Nat → Nat → Value} (h : SlC w v n k f) (ht : TagV w v t) (hf : Fx S w W) (hn : NoT S w t) : SlC W v n k f := by
  obtain ⟨a, cap, h1, h2, h3, h4, h5⟩ := h
  refine ⟨a, cap, h1, h2, h3, h4, fun h0 => ?_⟩
  obtain ⟨b, off, e, hlt, hc⟩ := h5 h0
  have hb : ¬ S b := fun hs => hn b hs (ht ⟨b, off, none⟩ _ _ (by rw [h1, e]))
  exact ⟨b, off, e, Nat.lt_of_lt_of_le hlt hf.size, fun i hi j hj => hf.cell (hc i hi j hj) hb⟩
end
/-- As SlI, SlS, SlL, IsR; the rows lie in blocks of their types. -/
def SlIT (w : World) (v : Value) (l : List Int) : Prop := SlI w v l ∧ TagV w v 3
def SlST (w : World) (v : Value) (l : List Stp) : Prop := SlS w v l ∧ TagV w v 53
def SlLT (w : World) (v : Value) (l : List (List Int)) : Prop := (∃ u : Nat → Value, SlC w v l.length 1 (fun i _ => u i) ∧ ∀ i, i < l.length → SlIT w (u i) (l.getD i [])) ∧ TagV w v 54
def IsRT (w : World) (v : Value) (r : Rec) : Prop := RecOk r ∧ ∃ vs va, v = .agg (recV r vs va) ∧ SlST w vs r.steps ∧ SlLT w va r.after
/-- No block of S is of a type of which the parts of records are. -/
def NoP (S : Nat → Prop) (w : World) : Prop := NoT S w 3 ∧ NoT S w 53 ∧ NoT S w 54
section
variable {S : Nat → Prop} {w W : World} {v : Value}
theorem NoP.none (w : World) : NoP (fun _ => False) w := ⟨fun _ e => e.elim, fun _ e => e.elim, fun _ e => e.elim⟩
theorem NoP.of {b : Nat} {t : TypeId} (h : TagB w b t) (h1 : t ≠ 3) (h2 : t ≠ 53) (h3 : t ≠ 54) : NoP (fun g => g = b) w :=
  ⟨fun g e k => h1 (h.one (e ▸ k)), fun g e k => h2 (h.one (e ▸ k)), fun g e k => h3 (h.one (e ▸ k))⟩
theorem SlIT.fx {l : List Int} (h : SlIT w v l) (hf : Fx S w W) (hn : NoT S w 3) : SlIT W v l := ⟨⟨h.1.1, h.1.2.fx h.2 hf hn⟩, h.2.fx hf hn⟩
theorem SlST.fx {l : List Stp} (h : SlST w v l) (hf : Fx S w W) (hn : NoT S w 53) : SlST W v l := ⟨⟨h.1.1, h.1.2.fx h.2 hf hn⟩, h.2.fx hf hn⟩
theorem SlLT.fx {l : List (List Int)} (h : SlLT w v l) (hf : Fx S w W) (hn : NoT S w 3) (hn' : NoT S w 54) : SlLT W v l := by
  obtain ⟨⟨u, h1, h2⟩, h3⟩ := h
  exact ⟨⟨u, h1.fx h3 hf hn', fun i hi => (h2 i hi).fx hf hn⟩, h3.fx hf hn'⟩
theorem IsRT.fx {r : Rec} (h : IsRT w v r) (hf : Fx S w W) (hn : NoP S w) : IsRT W v r := by
  obtain ⟨h0, vs, va, e, h1, h2⟩ := h
  exact ⟨h0, vs, va, e, h1.fx hf hn.2.1, h2.fx hf hn.1 hn.2.2⟩
theorem IsRT.after {r : Rec} (h : IsRT w v r) (hb : Below w.heap.size w W) : IsRT W v r := h.fx (S := fun _ => False) (Fx.of_below hb) (NoP.none w)
theorem SlIT.after {l : List Int} (h : SlIT w v l) (hb : Below w.heap.size w W) : SlIT W v l := h.fx (S := fun _ => False) (Fx.of_below hb) (NoP.none w).1
theorem SlST.after {l : List Stp} (h : SlST w v l) (hb : Below w.heap.size w W) : SlST W v l := h.fx (S := fun _ => False) (Fx.of_below hb) (NoP.none w).2.1
theorem SlLT.after {l : List (List Int)} (h : SlLT w v l) (hb : Below w.heap.size w W) : SlLT W v l := h.fx (S := fun _ => False) (Fx.of_below hb) (NoP.none w).1 (NoP.none w).2.2
theorem SlLT.sl {l : List (List Int)} (h : SlLT w v l) : SlL w v l := by
  obtain ⟨⟨u, h1, h2⟩, _⟩ := h
  exact ⟨u, h1, fun i hi => (h2 i hi).1⟩
theorem IsRT.is {r : Rec} (h : IsRT w v r) : IsR w v r := by
  obtain ⟨h0, vs, va, e, h1, h2⟩ := h
  exact ⟨h0, vs, va, e, h1.1, h2.sl⟩
theorem SlIT.nil (w : World) : SlIT w (.slice none 0 0) [] := ⟨SlI.nil w, TagV.nil w _⟩
theorem SlST.nil (w : World) : SlST w (.slice none 0 0) [] := ⟨SlS.nil w, TagV.nil w _⟩
theorem SlLT.nil (w : World) : SlLT w (.slice none 0 0) [] := ⟨⟨fun _ => undef, SlC.nil w 1 _, fun i hi => by simp at hi⟩, TagV.nil w _⟩
end
/-- A row of the call's own, of elements of k cells each. -/
def OwnC (w : World) (base : Nat) (e : TypeId) (k : Nat) (v : Value) (rows : List (List Value)) : Prop := (∀ r ∈ rows, r.length = k) ∧ w.ownsRow base e k v rows.length rows.flatten
theorem flat_at {k : Nat} : ∀ {rows : List (List Value)}, (∀ r ∈ rows, r.length = k) → ∀ i, i < rows.length → ∀ j, j < k → rows.flatten[i * k + j]? = (rows.getD i [])[j]?
  | [], _, i, hi, _, _ => by simp at hi
  | r :: rows, h, 0, _, j, hj => by
    have hr := h r (by simp)
    rw [List.flatten_cons, List.getElem?_append_left (by omega)]
    simp
  | r :: rows, h, i + 1, hi, j, hj => by
    have hr := h r (by simp)
    rw [List.flatten_cons, List.getElem?_append_right (by rw [hr, Nat.add_mul]; omega)]
    have : (i + 1) * k + j - r.length = i * k + j := by rw [hr, Nat.add_mul]; omega
    rw [this, flat_at (fun r hr => h r (by simp [hr])) i (by simpa using hi) j hj]
    simp
section
variable {w W : World} {base : Nat} {e : TypeId} {k : Nat} {v : Value} {rows : List (List Value)} {S : Nat → Prop}
theorem OwnC.nil (w : World) (base : Nat) (e : TypeId) (k : Nat) : OwnC w base e k (.slice none 0 0) [] := ⟨by simp, World.ownsRow_nil _ _ _ _⟩
theorem OwnC.slc (h : OwnC w base e k v rows) : SlC w v rows.length k (fun i j => ((rows.getD i [])[j]?).getD undef) := by
  obtain ⟨h0, h1, h2⟩ := h
  rcases h2 with ⟨rfl, e'⟩ | ⟨g, cap, cur, rfl, hge, hg, h3, h4, h5, h6⟩
  · rw [e']; exact SlC.nil w k _
  · refine ⟨some ⟨g, 0, none⟩, cap, rfl, h3, by simpa [maxLen] using h4, (fun h => by cases h), fun _ => ⟨g, 0, rfl, (Array.getElem?_eq_some_iff.1 hg).1, fun i hi j hj => ?_⟩⟩
    have hc := cell_of_row w g (0 + i * k + j) cur _ (0, 0) hg
    have hlt : i * k + j < rows.length * k := by
      have : (i + 1) * k ≤ rows.length * k := Nat.mul_le_mul_right k hi
      rw [Nat.add_mul] at this; omega
    rw [hc, ← Array.getElem?_toList, Nat.zero_add]
    have h7 : (cur.toList.take (rows.length * k))[i * k + j]? = rows.flatten[i * k + j]? := by rw [h6]
    rw [List.getElem?_take, if_pos hlt, flat_at h0 i hi j hj] at h7
    rw [h7]
    have hr : (rows.getD i []).length = k := by
      rw [List.getD_eq_getElem?_getD, List.getElem?_eq_getElem hi]; exact h0 _ (List.getElem_mem hi)
    dsimp only
    rw [List.getElem?_eq_getElem (by omega)]
    rfl
theorem OwnC.tag (h : OwnC w base e k v rows) : TagV w v e := by
  intro a n c e'
  rcases h.2.2 with ⟨rfl, _⟩ | ⟨g, cap, cur, rfl, _, hb, _⟩
  · cases e'
  · injection e' with e' _ _
    injection e' with e'
    subst e'
    exact ⟨cur, _, hb⟩
theorem OwnC.lt (h : OwnC w base e k v rows) : ∀ b, some b = v.ownBlock → base ≤ b ∧ TagB w b e := by
  intro b hb
  rcases h.2.2 with ⟨rfl, _⟩ | ⟨g, cap, cur, rfl, hge, hg, _⟩
  · simp [Value.ownBlock] at hb
  · simp [Value.ownBlock] at hb
    subst hb
    exact ⟨hge, _, _, hg⟩
theorem OwnC.fx (h : OwnC w base e k v rows) (hf : Fx S w W) (hS : ∀ b, S b → ¬ (base ≤ b ∧ TagB w b e)) : OwnC W base e k v rows := by
  obtain ⟨h0, h1, h2⟩ := h
  refine ⟨h0, h1, ?_⟩
  rcases h2 with h2 | ⟨g, cap, cur, rfl, hge, hg, h3⟩
  · exact .inl h2
  · exact .inr ⟨g, cap, cur, rfl, hge, (hf.block g (Array.getElem?_eq_some_iff.1 hg).1 (fun e => hS g e ⟨hge, _, _, hg⟩)).trans hg, h3⟩
theorem OwnC.after (h : OwnC w base e k v rows) (hb : Below w.heap.size w W) : OwnC W base e k v rows := h.fx (S := fun _ => False) (Fx.of_below hb) (fun _ e => e.elim)
theorem OwnC.le {b : Nat} (h : OwnC w base e k v rows) (hb : b ≤ base) : OwnC w b e k v rows := by
  obtain ⟨h0, h1, h2⟩ := h
  refine ⟨h0, h1, ?_⟩
  rcases h2 with h2 | ⟨g, cap, cur, e, hge, h3⟩
  · exact .inl h2
  · exact .inr ⟨g, cap, cur, e, Nat.le_trans hb hge, h3⟩
theorem OwnC.shape (h : OwnC w base e k v rows) : ∃ p c, v = .slice p rows.length c ∧ rows.length ≤ c := by
  obtain ⟨p, c, h1, h2, _⟩ := h.slc.shape
  exact ⟨p, c, h1, h2⟩
end
theorem cells_new {w : World} {t : TypeId} {row : List Value} : ∀ j u, row[j]? = some u → (w.alloc (.cells row.toArray t)).cell? ((⟨w.heap.size, 0, none⟩ : Addr).add j) = some u := by
  intro j u hj
  have hadd : (⟨w.heap.size, 0, none⟩ : Addr).add j = ⟨w.heap.size, j, none⟩ := by unfold Addr.add; split <;> simp_all
  rw [hadd, (Box.new w row.toArray t).cell j]
  simpa using hj
/-- append(s, x) of a row of the call's own and one element, laid in a block of its own. -/
theorem run_appC (w : World) (base : Nat) (t ty e : TypeId) (k bytes : Nat) (z : Value) (ht : Tryz.prog.underlying t = some (.slice e)) (hi : (Tryz.prog.info? e).map (fun i => (i.zero, i.size, i.bytes)) = some (some z, k, bytes)) (hzs : z.cells.size = k) (hk : 0 < k) (hby : bytes ≤ 1000)
    (v : Value) (rows : List (List Value)) (row : List Value) (hown : OwnC w base e k v rows) (hrow : row.length = k) (h1 : ∀ u ∈ row, u.oneCell' = true) (ad : Addr) (c : Nat) (hnews : ∀ j u, row[j]? = some u → w.cell? (ad.add j) = some u) (hl : rows.length ≤ 1000000) (hbase : base ≤ w.heap.size) :
    ∃ v' w', (Builtin.append_ #[t, t] ty #[v, .slice (some ad) 1 c]).run Tryz.prog w = .ok v' w' ∧ OwnC w' base e k v' (rows ++ [row]) ∧ Fx (fun b => some b = v.ownBlock) w w' := by
  obtain ⟨i0, hi', hz0, hz1, hz2⟩ := info_parts hi
  obtain ⟨v', w', hr, q1, q2, _, _⟩ := run_append_own_at (P := Tryz.prog) w base t ty e i0 z k bytes ht hi' hz0 hz1 hz2 hzs hk v rows.length _ hown.2 ad 1 c row (by omega) hnews h1 (by have : maxLen = 9223372036854775807 := rfl; omega) (by
    have : (rows.length + 1) * bytes ≤ 1000001 * 1000 := Nat.mul_le_mul (by omega) hby
    omega) hbase
  refine ⟨v', w', hr, ⟨fun r hr => ?_, ?_⟩, Fx.grown q2⟩
  · rcases List.mem_append.1 hr with h | h
    · exact hown.1 r h
    · rw [List.mem_singleton.1 h]; exact hrow
  · rw [List.length_append, List.flatten_append]
    simpa using q1
theorem wpList_appC {w : World} {ops : Array Oper} {rest : List Oper} {o : Oper} {a : Act} {Q : Exit → Act → World → Prop} (hgd : o.guard = none) (s x : Operand) (t : TypeId)
    (ho : o.op = .call { callee := .builtin .append, args := #[s, x], argTypes := #[t, t] })
    (base : Nat) (e : TypeId) (k bytes : Nat) (z : Value) (ht : Tryz.prog.underlying t = some (.slice e)) (hi : (Tryz.prog.info? e).map (fun i => (i.zero, i.size, i.bytes)) = some (some z, k, bytes)) (hzs : z.cells.size = k) (hk : 0 < k) (hby : bytes ≤ 1000)
    (v : Value) (rows : List (List Value)) (row : List Value) (hs : a.eval s = v) (hown : OwnC w base e k v rows) (hrow : row.length = k) (h1 : ∀ u ∈ row, u.oneCell' = true) (ad : Addr) (c : Nat) (hx : a.eval x = .slice (some ad) 1 c) (hnews : ∀ j u, row[j]? = some u → w.cell? (ad.add j) = some u) (hl : rows.length ≤ 1000000) (hbase : base ≤ w.heap.size)
    (h : ∀ v' w', OwnC w' base e k v' (rows ++ [row]) → Fx (fun b => some b = v.ownBlock) w w' → wpList Tryz.prog ops Q rest (a.put o.dst v') w') :
    wpList Tryz.prog ops Q (o :: rest) a w := by
  refine wpList_plain hgd fun K hK => ?_
  obtain ⟨v', w', hr, h2, h3⟩ := run_appC w base t o.type e k bytes z ht hi hzs hk hby v rows row hown hrow h1 ad c hnews hl hbase
  unfold Oper.wp execOp
  simp only [ho, resolve, invoke, builtin, Sem.run_bind, Sem.run_pure, Result.andThen_ok, List.map_toArray, List.map_cons, List.map_nil, hs, hx, hr]
  exact hK _ _ (h v' w' h2 h3)
theorem ints_flat : ∀ l : List Int, (l.map fun z => [Value.int .i64 z]).flatten = l.map (Value.int .i64)
  | [] => rfl
  | z :: l => by rw [List.map_cons, List.flatten_cons, ints_flat l]; rfl
/-- A row of ints of the call's own, with its block's type. -/
theorem OwnI.ownC {w : World} {base : Nat} {v : Value} {l : List Int} (h : OwnI w base v l) : OwnC w base 3 1 v (l.map fun z => [Value.int .i64 z]) := by
  refine ⟨fun r hr => by obtain ⟨z, _, rfl⟩ := List.mem_map.1 hr; rfl, ?_⟩
  have e := ints_flat l
  rw [e, List.length_map]
  exact h.2
theorem OwnI.slT {w : World} {base : Nat} {v : Value} {l : List Int} (h : OwnI w base v l) : SlIT w v l := ⟨h.sl, h.ownC.tag⟩
theorem OwnI.fx {w W : World} {base : Nat} {v : Value} {l : List Int} {S : Nat → Prop} (h : OwnI w base v l) (hf : Fx S w W) (hS : ∀ b, S b → ¬ (base ≤ b ∧ TagB w b 3)) : OwnI W base v l := by
  have := h.ownC.fx hf hS
  refine ⟨h.1, ?_⟩
  have e := ints_flat l
  have h2 := this.2
  rw [e, List.length_map] at h2
  exact h2
/-- The cells of a step. -/
def stpV (s : Stp) : List Value := [.int .u8 (s.kind : Int), .int .i64 s.host, .int .i64 s.srv, .int .i64 s.ver]
def OwnS (w : World) (base : Nat) (v : Value) (l : List Stp) : Prop := (∀ s ∈ l, StpOk s) ∧ OwnC w base 53 4 v (l.map stpV)
theorem OwnS.slT {w : World} {base : Nat} {v : Value} {l : List Stp} (h : OwnS w base v l) : SlST w v l := by
  obtain ⟨h0, h1⟩ := h
  refine ⟨⟨h0, ?_⟩, h1.tag⟩
  have hs := h1.slc
  rw [List.length_map] at hs
  obtain ⟨a, cap, e1, e2, e3, e4, e5⟩ := hs
  refine ⟨a, cap, e1, e2, e3, e4, fun hn => ?_⟩
  obtain ⟨b, off, f1, f2, f3⟩ := e5 hn
  refine ⟨b, off, f1, f2, fun i hi j hj => ?_⟩
  rw [f3 i hi j hj]
  have e : (l.map stpV).getD i [] = stpV (l.getD i stp0) := by
    rw [List.getD_eq_getElem?_getD, List.getD_eq_getElem?_getD, List.getElem?_map, List.getElem?_eq_getElem hi]; rfl
  dsimp only
  rw [e]
  match j, hj with
  | 0, _ => rfl
  | 1, _ => rfl
  | 2, _ => rfl
  | 3, _ => rfl
/-- A row of lists of ints, of the call's own; its elements lie where they lie. -/
def OwnL (w : World) (base : Nat) (v : Value) (l : List (List Int)) : Prop := ∃ us : List Value, us.length = l.length ∧ OwnC w base 54 1 v (us.map fun u => [u]) ∧ ∀ i, i < l.length → SlIT w (us.getD i undef) (l.getD i [])
theorem OwnL.slT {w : World} {base : Nat} {v : Value} {l : List (List Int)} (h : OwnL w base v l) : SlLT w v l := by
  obtain ⟨us, h0, h1, h2⟩ := h
  refine ⟨⟨fun i => us.getD i undef, ?_, h2⟩, h1.tag⟩
  have hs := h1.slc
  rw [List.length_map, h0] at hs
  obtain ⟨a, cap, e1, e2, e3, e4, e5⟩ := hs
  refine ⟨a, cap, e1, e2, e3, e4, fun hn => ?_⟩
  obtain ⟨b, off, f1, f2, f3⟩ := e5 hn
  refine ⟨b, off, f1, f2, fun i hi j hj => ?_⟩
  rw [f3 i hi j hj]
  obtain rfl : j = 0 := by omega
  dsimp only
  rw [List.getD_eq_getElem?_getD, List.getD_eq_getElem?_getD, List.getElem?_map, List.getElem?_eq_getElem (show i < us.length from by rw [h0]; exact hi)]
  rfl
theorem OwnL.push {w' : World} {base : Nat} {v' u : Value} {l : List (List Int)} {us : List Value} {a : List Int} (h0 : us.length = l.length) (h1 : OwnC w' base 54 1 v' (us.map (fun u => [u]) ++ [[u]])) (h2 : ∀ i, i < l.length → SlIT w' (us.getD i undef) (l.getD i [])) (h3 : SlIT w' u a) : OwnL w' base v' (l ++ [a]) := by
  refine ⟨us ++ [u], by simp [h0], by simpa using h1, fun i hi => ?_⟩
  rcases Nat.lt_or_ge i l.length with hl | hl
  · have e1 : (us ++ [u]).getD i undef = us.getD i undef := by rw [List.getD_eq_getElem?_getD, List.getElem?_append_left (by omega), ← List.getD_eq_getElem?_getD]
    have e2 : (l ++ [a]).getD i [] = l.getD i [] := by rw [List.getD_eq_getElem?_getD, List.getElem?_append_left hl, ← List.getD_eq_getElem?_getD]
    rw [e1, e2]
    exact h2 i hl
  · obtain rfl : i = l.length := by simp at hi; omega
    have e1 : (us ++ [u]).getD l.length undef = u := by rw [List.getD_eq_getElem?_getD, ← h0]; simp
    have e2 : (l ++ [a]).getD l.length [] = a := by rw [List.getD_eq_getElem?_getD]; simp
    rw [e1, e2]
    exact h3
end Go.Proofs.YtpaoeeamlinaaaaGreatDoor

namespace Go.Proofs.YtpaoeeamlinaaaaGreatDoor
open Go.RowKit

def numV (l : List UInt8) : Int := (((numF l).getD 0 : Nat) : Int)
def RetNo (w : World) (l : List UInt8) (e : Ending) (w' : World) : Prop := e = .returned (.tuple #[.int .i64 (numV l), .bool (numF l).isSome]) ∧ Below w.heap.size w w'
theorem bs_list (l : List UInt8) : (bs l).toList = l := by rw [ByteArray.toList_eq]; rfl
set_option maxRecDepth 100000 in
set_option maxHeartbeats 1000000 in
theorem number_c (w : World) (l : List UInt8) (hl : l.length ≤ 1000000) : Calls Tryz.prog 48 #[.string (bs l)] w (RetNo w l) := by
  have hsz := bs_size l
  by_cases h0 : l = []
  · have HN : Hid (numF l = none) := by show _ = _; unfold numF; rw [if_pos (.inl h0)]
    have hem : (bs l).toList.isEmpty = true := by rw [bs_list, h0]; rfl
    clear h0
    go_enter Tryz.func48, Tryz.ntmps48
    go_wp2_with fail
    go_ret2
    exact ⟨by unfold numV; rw [HN.out]; rfl, Below.refl _ _⟩
  have hem : (bs l).toList.isEmpty = false := by rw [bs_list]; cases l with
    | nil => exact absurd rfl h0
    | cons _ _ => rfl
  by_cases h7 : 7 < l.length
  · have HN : Hid (numF l = none) := by show _ = _; unfold numF; rw [if_pos (.inr (.inl h7))]
    clear h0
    go_enter Tryz.func48, Tryz.ntmps48
    go_wp2_with fail
    go_ret2
    exact ⟨by unfold numV; rw [HN.out]; rfl, Below.refl _ _⟩
  have h7' : ¬ (7 : Int) < (l.length : Int) := by omega
  obtain ⟨T, hT⟩ : ∃ T, Lib.trimS l digs = T := ⟨_, rfl⟩
  have HT : Hid (Calls Tryz.prog 59 #[.string (bs l), .string (bs digs)] w fun e w' => e = .returned (.string (bs T)) ∧ Below w.heap.size w w') := by
    rw [← hT]; exact trim_c w l hl
  by_cases hd : l.all isDig = true
  rotate_left
  · have HN : Hid (numF l = none) := by show _ = _; unfold numF; rw [if_pos (.inr (.inr (.inr (by simpa using hd))))]
    have hTe : (bs T).toList.isEmpty = false := by
      rw [bs_list]
      cases T with
      | nil => exact absurd ((trimS_nil l).1 hT) hd
      | cons _ _ => rfl
    clear h0 hT hd h7
    go_enter Tryz.func48, Tryz.ntmps48
    go_wp2_with fail
    refine HT.out.mono ?_
    rintro e w1 ⟨rfl, hb1⟩
    have HB := Lib.hid hb1
    clear hb1
    go_wp2_with fail
    go_ret2
    exact ⟨by unfold numV; rw [HN.out]; rfl, HB.out⟩
  have hTe : (bs T).toList.isEmpty = true := by
    rw [bs_list]
    rw [(trimS_nil l).2 hd] at hT
    rw [← hT]; rfl
  have hpos : 0 < l.length := List.length_pos_iff.2 h0
  have hb0 : 0 < (bs l).size := by rw [hsz]; exact hpos
  obtain ⟨c, hc⟩ : ∃ c, (bs l)[0] = c := ⟨_, rfl⟩
  have hc' : l.head? = some c := by
    rw [← hc, List.head?_eq_getElem?, List.getElem?_eq_getElem hpos]
    rfl
  have hd7 : decide (7 < (l.length : Int)) = false := decide_eq_false (by omega)
  have HD := Lib.hid hd
  have H0 := Lib.hid h0
  have H7 : Hid (l.length ≤ 18) := by show _ ≤ _; omega
  by_cases h48 : c = 48
  · subst h48
    by_cases h1 : 1 < l.length
    · have HN : Hid (numF l = none) := by show _ = _; unfold numF; rw [if_pos (.inr (.inr (.inl ⟨hc', h1⟩)))]
      have q1 : decide (1 < (l.length : Int)) = true := decide_eq_true (by omega)
      have q1' : (1 : Int) < (l.length : Int) := by omega
      clear hT h0 h7 hd hc' h1 hpos
      go_enter Tryz.func48, Tryz.ntmps48
      go_wp2_with fail
      refine HT.out.mono ?_
      rintro e w1 ⟨rfl, hb1⟩
      have HB := Lib.hid hb1
      clear hb1
      go_wp2_with fail
      go_ret2
      exact ⟨by unfold numV; rw [HN.out]; rfl, HB.out⟩
    · have HN : Hid (numF l = some (valD l)) := by
        show _ = _
        unfold numF
        rw [if_neg]
        rintro (h | h | h | h)
        · exact h0 h
        · exact h7 h
        · exact h1 h.2
        · rw [hd] at h; cases h
      have q1 : decide (1 < (l.length : Int)) = false := decide_eq_false (by omega)
      have q1' : ¬ (1 : Int) < (l.length : Int) := by omega
      clear hT h0 h7 hd hc' h1 hpos
      go_enter Tryz.func48, Tryz.ntmps48
      go_wp2_with fail
      refine HT.out.mono ?_
      rintro e w1 ⟨rfl, hb1⟩
      have HB := Lib.hid hb1
      clear hb1
      go_wp2_with fail
      refine (atoi_c w1 l HD.out H0.out H7.out).mono ?_
      rintro e w2 ⟨rfl, hb2⟩
      have HB2 : Hid (Below w.heap.size w w2) := HB.out.trans (hb2.mono HB.out.size)
      clear hb2
      go_wp2_with fail
      go_quiet (fail)
      go_wp2_with fail
      go_ret2
      exact ⟨by unfold numV; rw [HN.out]; rfl, HB2.out.trans (below_drewN _ _ _)⟩
  · have q48 : ((c.toNat : Int) == 48) = false := by
      rw [beq_eq_false_iff_ne]
      intro e
      exact h48 (UInt8.toNat_inj.1 (by show c.toNat = 48; omega))
    have HN : Hid (numF l = some (valD l)) := by
      show _ = _
      unfold numF
      rw [if_neg]
      rintro (h | h | h | h)
      · exact h0 h
      · exact h7 h
      · rw [hc'] at h
        exact h48 (Option.some.inj h.1)
      · rw [hd] at h; cases h
    clear hT h0 h7 hd hc' hpos h48
    go_enter Tryz.func48, Tryz.ntmps48
    go_wp2_with fail
    refine HT.out.mono ?_
    rintro e w1 ⟨rfl, hb1⟩
    have HB := Lib.hid hb1
    clear hb1
    go_wp2_with fail
    refine (atoi_c w1 l HD.out H0.out H7.out).mono ?_
    rintro e w2 ⟨rfl, hb2⟩
    have HB2 : Hid (Below w.heap.size w w2) := HB.out.trans (hb2.mono HB.out.size)
    clear hb2
    go_wp2_with fail
    go_quiet (fail)
    go_wp2_with fail
    go_ret2
    exact ⟨by unfold numV; rw [HN.out]; rfl, HB2.out.trans (below_drewN _ _ _)⟩

theorem fld_ne (l : List UInt8) : ∃ w ws, fld l = w :: ws := by
  cases l with
  | nil => exact ⟨_, _, rfl⟩
  | cons x l =>
    unfold fld
    split
    · exact ⟨_, _, rfl⟩
    · split <;> exact ⟨_, _, rfl⟩
theorem mapM_snoc (l : List (List UInt8)) (x : List UInt8) : (l ++ [x]).mapM numR = match l.mapM numR with
    | none => none
    | some m => match numR x with
      | none => none
      | some z => some (m ++ [z]) := by
  rw [List.mapM_append]
  rcases l.mapM numR with _ | m
  · rfl
  · rcases h : numR x with _ | z
    · simp [h]
    · simp [h]
theorem mapM_bad {l : List (List UInt8)} {i : Nat} (hi : i < l.length) (h : numR (l.getD i []) = none) : l.mapM numR = none := by
  have e : l = l.take i ++ (l.getD i [] :: l.drop (i + 1)) := by
    rw [List.getD_eq_getElem?_getD, List.getElem?_eq_getElem hi]
    show l = l.take i ++ (l[i] :: l.drop (i + 1))
    rw [← List.drop_eq_getElem_cons hi, List.take_append_drop]
  rw [e, List.mapM_append, List.mapM_cons, h]
  rcases (l.take i).mapM numR with _ | m <;> rfl
theorem words_take (l : List (List UInt8)) (i : Nat) (hi : i < l.length) : l.take (i + 1) = l.take i ++ [l.getD i []] := by
  rw [List.take_succ_eq_append_getElem hi, List.getD_eq_getElem?_getD, List.getElem?_eq_getElem hi]
  rfl
def RetPa (w : World) (front : List UInt8) (e : Ending) (w' : World) : Prop :=
  (parsedF front = none ∧ e = .returned (.tuple #[.string (bs []), .slice none 0 0, .bool false]) ∧ Below w.heap.size w w') ∨
  ∃ wd l v, parsedF front = some (wd, l) ∧ e = .returned (.tuple #[.string (bs wd), v, .bool true]) ∧ SlIT w' v l ∧ Below w.heap.size w w'
theorem trimE_len (l : List UInt8) : (trimE l).length ≤ l.length := by
  unfold trimE
  split
  · simp
  · exact Nat.le_refl _
theorem fld_elem_len : ∀ (l : List UInt8), ∀ x ∈ fld l, x.length ≤ l.length
  | [], x, hx => by simp [fld] at hx; subst hx; simp
  | c :: l, x, hx => by
    have ih := fld_elem_len l
    unfold fld at hx
    split at hx
    · rcases List.mem_cons.1 hx with rfl | hx
      · simp
      · have := ih x hx; simp; omega
    · split at hx
      · rename_i heq
        obtain ⟨a, b, e⟩ := fld_ne l
        rw [e] at heq; cases heq
      · rename_i w ws heq
        rw [heq] at ih
        rcases List.mem_cons.1 hx with rfl | hx
        · have := ih w (by simp); simp; omega
        · have := ih x (by simp [hx]); simp; omega
theorem fld_len (m : List UInt8) : (fld m).length ≤ m.length + 1 := by
  induction m with
  | nil => simp [fld]
  | cons x m ih =>
    unfold fld
    split
    · simp; omega
    · split
      · simp
      · rename_i heq; rw [heq] at ih; simp at ih ⊢; omega

set_option maxRecDepth 100000 in
set_option maxHeartbeats 2000000 in
theorem parsed_c (w : World) (front : List UInt8) (hl : front.length ≤ 900000) (he : Env w) : Calls Tryz.prog 49 #[.string (bs front)] w (RetPa w front) := by
  obtain ⟨t, ht⟩ : ∃ t, trimE front = t := ⟨_, rfl⟩
  have htl : t.length ≤ 900000 := by rw [← ht]; exact Nat.le_trans (trimE_len front) hl
  obtain ⟨w0, ws, hws⟩ := fld_ne t
  have hwsl : ws.length ≤ 900000 := by have := fld_len t; rw [hws] at this; simp at this; omega
  have HEL : Hid (∀ x ∈ w0 :: ws, x.length ≤ 1000000) := fun x hx => by have := fld_elem_len t x (by rw [hws]; exact hx); omega
  have HP : Hid (parsedF front = match ws.mapM numR with
    | none => none
    | some l => some (w0, l)) := by show _ = _; unfold parsedF; rw [ht, hws]; rfl
  have HSF := Lib.hid (suffix_c w front (by omega))
  rw [ht] at HSF
  have HE := Lib.hid he
  have HSP : Hid (∀ W, Env W → Calls Tryz.prog 61 #[.string (bs t), .string (bs [32])] W fun e w' => ∃ v, e = .returned v ∧ SlW w' v (w0 :: ws) ∧ Below W.heap.size W w') := fun W hW => by
    have := split_c W t (by omega) hW
    rw [hws] at this
    exact this
  clear ht hws he
  go_enter Tryz.func49, Tryz.ntmps49
  go_wp2_with fail
  refine HSF.out.mono ?_
  rintro e w1 ⟨rfl, hb1⟩
  have HE1 := Lib.hid (HE.out.after hb1)
  have HB1 := Lib.hid hb1
  clear hb1
  go_wp2_with fail
  refine (HSP.out w1 HE1.out).mono ?_
  rintro e w2 ⟨v, rfl, hv, hb2⟩
  have HB2 : Hid (Below w.heap.size w w2) := HB1.out.trans (hb2.mono HB1.out.size)
  have HV := Lib.hid hv
  obtain ⟨b, off, cap, rfl, hc1, hc2, hbl, hcell⟩ := SlC.at_ (show SlC w2 v (w0 :: ws).length 1 (fun i _ => .string (bs ((w0 :: ws).getD i []))) from hv) (by simp)
  have hcl : (w0 :: ws).length = ws.length + 1 := rfl
  rw [hcl] at hc1 ⊢
  have HCELL : Hid (∀ i, i < ws.length + 1 → w2.cell? ⟨b, off + i, none⟩ = some (.string (bs ((w0 :: ws).getD i [])))) := fun i hi => by
    have := hcell i (by rw [hcl]; exact hi) 0 (by omega)
    simpa using this
  clear hb2 hv hcell hcl HV
  obtain ⟨n, hn⟩ : ∃ n, ws.length = n := ⟨_, rfl⟩
  have HN := Lib.hid hn
  rw [hn] at hc1 hwsl HCELL ⊢
  clear hn
  by_cases hcap : cap = 1
  · subst hcap
    obtain rfl : n = 0 := by omega
    have hws0 : ws = [] := List.length_eq_zero_iff.1 HN.out
    have HP' : Hid (parsedF front = some (w0, [])) := by show _ = _; rw [HP.out, hws0]; rfl
    have y0 : w2.cell? ⟨b, off, none⟩ = some (.string (bs w0)) := by have := HCELL.out 0 (by omega); simpa using this
    clear hws0 hc1
    go_wp2_with fail
    go_loopg [6, 17] 0 (fun g o t wx => g = 0 ∧ t = .int .i64 0 ∧ o = .slice none 0 0 ∧ wx = w2)
    case atStart => exact ⟨rfl, rfl, rfl, rfl⟩
    case round =>
      obtain ⟨rfl, rfl, rfl, hw⟩ := hrel
      subst hw
      go_wp2_with fail
      refine bodyPost_ret (v := .tuple #[.string (bs w0), .slice none 0 0, .bool true]) (by simp [results, Tryz.results49, go_sem]) rfl ?_
      exact .inr ⟨w0, [], _, HP'.out, rfl, SlIT.nil _, HB2.out⟩
  have hcap1 : 1 < cap := by omega
  obtain ⟨B2, hB2⟩ : ∃ B2, w2.heap.size = B2 := ⟨_, rfl⟩
  have HBB := Lib.hid hB2
  clear hB2
  go_wp2_with fail
  go_loopg [6, 17] n (fun g o t wx => ∃ (i : Nat) (l : List Int), i ≤ n ∧ g = n - i ∧ t = .int .i64 (i : Int) ∧ l.length = i ∧ Hid ((ws.take i).mapM numR = some l) ∧ Hid (OwnI wx B2 o l) ∧ Hid (Below w2.heap.size w2 wx))
  case atStart => exact ⟨0, [], Nat.zero_le _, rfl, rfl, rfl, rfl, OwnI.nil _ _, Below.refl _ _⟩
  case round =>
    obtain ⟨i, l, hi, rfl, rfl, hll, hm, hown, hbl2⟩ := hrel
    have hsz := hbl2.out.size
    have hbr := Nat.lt_of_lt_of_le hbl hsz
    by_cases hlt : i < n
    · have y0 : wr.cell? ⟨b, off + 1 + i, none⟩ = some (.string (bs (ws.getD i []))) := by
        have := keep_cell hbl2.out (HCELL.out (i + 1) (by omega))
        rw [show off + (i + 1) = off + 1 + i by omega] at this
        simpa using this
      have hiw : i < ws.length := by rw [HN.out]; exact hlt
      have HXL : Hid ((ws.getD i []).length ≤ 1000000) := HEL.out _ (by rw [List.getD_eq_getElem?_getD, List.getElem?_eq_getElem hiw]; exact List.mem_cons_of_mem _ (List.getElem_mem hiw))
      have HTK := Lib.hid (words_take ws i hiw)
      have HBAD : Hid (numR (ws.getD i []) = none → parsedF front = none) := fun h => by rw [HP.out, mapM_bad hiw h]
      obtain ⟨x, hx⟩ : ∃ x, ws.getD i [] = x := ⟨_, rfl⟩
      rw [hx] at y0 HXL HTK HBAD
      have il : (i : Int) < (n : Int) := by omega
      have i0 : (0 : Int) ≤ (i : Int) := by omega
      clear hx
      go_wp2_with fail
      refine (number_c wr x HXL.out).mono ?_
      unfold RetNo
      rcases hn : numF x with _ | k
      · have HNO : Hid (parsedF front = none) := HBAD.out (by unfold numR; rw [hn])
        rw [show numV x = 0 from by unfold numV; rw [hn]; rfl]
        rintro e w3 ⟨rfl, hb3⟩
        have HB3 : Hid (Below w.heap.size w w3) := HB2.out.trans ((hbl2.out.trans (hb3.mono hsz)).mono HB2.out.size)
        clear hb3 y0 hn
        dsimp only [Option.isSome]
        go_wp2_with fail
        refine bodyPost_ret (v := .tuple #[.string (bs []), .slice none 0 0, .bool false]) (by simp [results, Tryz.results49, go_sem]; rfl) rfl ?_
        exact .inl ⟨HNO.out, rfl, HB3.out⟩
      · have HK : Hid (k < 10000000) := numF_lt hn
        have hk7 := HK.out
        rw [show numV x = (k : Int) from by unfold numV; rw [hn]; rfl]
        by_cases hbig : 1000000 < k
        · have HNO : Hid (parsedF front = none) := HBAD.out (by unfold numR; rw [hn]; simp only; rw [if_pos hbig])
          have q1 : (1000000 : Int) < (k : Int) := by omega
          have q2 : decide (1000000 < (k : Int)) = true := decide_eq_true q1
          rintro e w3 ⟨rfl, hb3⟩
          have HB3 : Hid (Below w.heap.size w w3) := HB2.out.trans ((hbl2.out.trans (hb3.mono hsz)).mono HB2.out.size)
          clear hb3 y0 hn
          dsimp only [Option.isSome]
          go_wp2_with fail
          refine bodyPost_ret (v := .tuple #[.string (bs []), .slice none 0 0, .bool false]) (by simp [results, Tryz.results49, go_sem]; rfl) rfl ?_
          exact .inl ⟨HNO.out, rfl, HB3.out⟩
        · have q1 : ¬ (1000000 : Int) < (k : Int) := by omega
          have q2 : decide (1000000 < (k : Int)) = false := decide_eq_false q1
          have HNR : Hid (numR x = some (k : Int)) := by show _ = _; unfold numR; rw [hn]; simp only; rw [if_neg hbig]
          rintro e w3 ⟨rfl, hb3⟩
          have HBL3 : Hid (Below w2.heap.size w2 w3) := hbl2.out.trans (hb3.mono hsz)
          have HO3 := Lib.hid (hown.out.after hb3)
          have hsz3 := HBL3.out.size
          clear hb3 y0 hn hown hbl2 HBAD
          dsimp only [Option.isSome]
          go_wp2_with (at_builtin; refine wpList_appI rfl _ _ rfl B2 _ _ l [(k : Int)] rfl (HO3.out.alloc _) rfl (SlI.one w3 (by constructor <;> omega)) ?d3 ?d4 ?_)
          case d3 => omega
          case d4 => have := HBB.out; simp; omega
          intro v4 w4 hown4 hb4
          have HO4 := Lib.hid hown4
          have HBL4 : Hid (Below w2.heap.size w2 w4) := by
            rw [HBB.out]
            have h1 : Below B2 w3 (w3.alloc (.cells #[.int .i64 (k : Int)] 3)) := (Below.refl _ _).alloc (by rw [← HBB.out]; exact hsz3) _
            have h3 := HBL3.out
            rw [HBB.out] at h3
            exact (h3.trans h1).trans hb4
          clear hown4 hb4
          go_wp2_with fail
          go_roundg (n - (i + 1))
          case measure => omega
          case rel => exact ⟨i + 1, l ++ [(k : Int)], by omega, rfl, by go_num, by simp [hll], by show _ = _; rw [HTK.out, mapM_snoc, hm.out, HNR.out], HO4.out, HBL4.out⟩
    · obtain rfl : i = n := by omega
      have HP' : Hid (parsedF front = some (w0, l)) := by
        have h := hm.out
        rw [← HN.out, List.take_length] at h
        show _ = _
        rw [HP.out, h]
      have y0 : wr.cell? ⟨b, off, none⟩ = some (.string (bs w0)) := by
        have := keep_cell hbl2.out (HCELL.out 0 (by omega))
        simpa using this
      have hc3 : (1 : Int) ≤ (cap : Int) := by omega
      go_wp2_with fail
      refine bodyPost_ret (by simp [results, Tryz.results49, go_sem]; rfl) rfl ?_
      exact .inr ⟨w0, l, _, HP'.out, rfl, hown.out.slT, HB2.out.trans (hbl2.out.mono HB2.out.size)⟩
end Go.Proofs.YtpaoeeamlinaaaaGreatDoor

namespace Go.Proofs.YtpaoeeamlinaaaaGreatDoor
open Go.RowKit

/-- The two variables of a taker: what is left, and whether a number was missing. -/
def LowV (B : Nat) (v : Value) : Prop := ∀ a n c, v = .slice (some a) n c → a.block < B
def TkAt (w : World) (Bl Bm : Nat) (s : Tk) : Prop := (∃ v, Box w Bl #[v] 54 ∧ SlIT w v s.1 ∧ LowV Bl v) ∧ Box w Bm #[.bool s.2] 4
def TkS (Bl Bm : Nat) (b : Nat) : Prop := b = Bl ∨ b = Bm
section
variable {w W : World} {Bl Bm : Nat} {s : Tk} {S : Nat → Prop}
theorem TkAt.fxl (h : TkAt w Bl Bm s) (hf : Fx S w W) (h1 : ¬ S Bl) (h2 : ¬ S Bm) (hn : ∀ b, S b → b < Bl → ¬ TagB w b 3) : TkAt W Bl Bm s := by
  obtain ⟨⟨v, b1, b2, b4⟩, b3⟩ := h
  refine ⟨⟨v, b1.fx hf h1, ?_, b4⟩, b3.fx hf h2⟩
  obtain ⟨⟨h0, a, cap, e1, e2, e3, e4, e5⟩, ht⟩ := b2
  refine ⟨⟨h0, a, cap, e1, e2, e3, e4, fun h0 => ?_⟩, fun a n c e => ?_⟩
  · obtain ⟨b, off, e, hlt, hc⟩ := e5 h0
    have hb : ¬ S b := fun hs => hn b hs (b4 ⟨b, off, none⟩ _ _ (by rw [e1, e])) (ht ⟨b, off, none⟩ _ _ (by rw [e1, e]))
    exact ⟨b, off, e, Nat.lt_of_lt_of_le hlt hf.size, fun i hi j hj => hf.cell (hc i hi j hj) hb⟩
  · exact (ht a n c e).fx hf fun hs => hn _ hs (b4 a n c e) (ht a n c e)
theorem TkAt.fx (h : TkAt w Bl Bm s) (hf : Fx S w W) (h1 : ¬ S Bl) (h2 : ¬ S Bm) (hn : NoT S w 3) : TkAt W Bl Bm s := h.fxl hf h1 h2 (fun b e _ => hn b e)
theorem TkAt.after (h : TkAt w Bl Bm s) (hb : Below w.heap.size w W) : TkAt W Bl Bm s := h.fx (S := fun _ => False) (Fx.of_below hb) id id (fun _ e => e.elim)
theorem TkAt.ne (h : TkAt w Bl Bm s) : Bl ≠ Bm := by
  obtain ⟨⟨v, b1, _⟩, b3⟩ := h
  intro e
  subst e
  have := b1.tag.one b3.tag
  cases this
theorem TkAt.tagged (h : TkAt w Bl Bm s) {t : TypeId} (h1 : t ≠ 54) (h2 : t ≠ 4) : NoT (TkS Bl Bm) w t := by
  obtain ⟨⟨v, b1, _⟩, b3⟩ := h
  rintro b (rfl | rfl) ht
  · exact h1 (ht.one b1.tag)
  · exact h2 (ht.one b3.tag)
theorem TkAt.lt (h : TkAt w Bl Bm s) : Bl < w.heap.size ∧ Bm < w.heap.size := by
  obtain ⟨⟨v, b1, _⟩, b3⟩ := h
  exact ⟨b1.lt, b3.lt⟩
end
theorem SlIT.cut {w : World} {b off cap n : Nat} {x : Int} {l : List Int} (h : SlIT w (.slice (some ⟨b, off, none⟩) n cap) (x :: l)) : SlIT w (.slice (some ⟨b, off + 1, none⟩) l.length (cap - 1)) l := by
  obtain ⟨⟨h0, a, cap', e, h2, h3, _, h5⟩, ht⟩ := h
  injection e with e1 e2 e3
  subst e1 e2 e3
  obtain ⟨b', off', e', hlt, hc⟩ := h5 (by simp)
  injection e' with e'
  obtain ⟨rfl, rfl⟩ : b = b' ∧ off = off' := by injection e'; exact ⟨by assumption, by assumption⟩
  simp only [List.length_cons] at h2 h3
  refine ⟨⟨fun z hz => h0 z (by simp [hz]), some ⟨b, off + 1, none⟩, cap - 1, rfl, by omega, by omega, (fun h => by cases h), fun hn => ⟨b, off + 1, rfl, hlt, fun i hi j hj => ?_⟩⟩, ?_⟩
  · have := hc (i + 1) (by simp; omega) j hj
    rw [show off + 1 + i * 1 + j = off + (i + 1) * 1 + j by omega]
    simpa using this
  · intro a n c e
    injection e with e _ _
    injection e with e
    subst e
    exact ht ⟨b, off, none⟩ _ _ rfl
theorem SlIT.none_left {w : World} {b off cap : Nat} {x : Int} {n : Nat} (h : SlIT w (.slice (some ⟨b, off, none⟩) n cap) [x]) : SlIT w (.slice (some ⟨b, off, none⟩) 0 0) [] := by
  refine ⟨⟨by simp, some ⟨b, off, none⟩, 0, rfl, Nat.le_refl _, by omega, (fun h => by cases h), fun hn => by simp at hn⟩, ?_⟩
  intro a n c e
  injection e with e _ _
  injection e with e
  subst e
  exact h.2 ⟨b, off, none⟩ _ _ rfl
def RetNx (w : World) (Bl Bm : Nat) (s : Tk) (e : Ending) (w' : World) : Prop := e = .returned (.int .i64 (nx s).1) ∧ TkAt w' Bl Bm (nx s).2 ∧ Fx (TkS Bl Bm) w w'

set_option maxRecDepth 100000 in
set_option maxHeartbeats 1000000 in
theorem next_c (w : World) (Bl Bm : Nat) (s : Tk) (h : TkAt w Bl Bm s) :
    Calls Tryz.prog 63 #[.pointer (some ⟨Bl, 0, none⟩), .pointer (some ⟨Bm, 0, none⟩)] w (RetNx w Bl Bm s) := by
  have hne := h.ne
  obtain ⟨l, m⟩ := s
  obtain ⟨⟨v, b1, b2, b4⟩, b3⟩ := h
  simp only at b2 b3
  have B4 := Lib.hid b4
  clear b4
  have B1 := Lib.hid b1
  have B2 := Lib.hid b2
  have B3 := Lib.hid b3
  have HNE := Lib.hid hne
  have x0 : w.cell? ⟨Bl, 0, none⟩ = some v := b1.cell 0
  have y0 : w.cell? ⟨Bm, 0, none⟩ = some (.bool m) := b3.cell 0
  have f0 := b1.frozen 0
  have f1 := b3.frozen 0
  have l0 := b1.lt
  have l1 := b3.lt
  cases l with
  | nil =>
    obtain ⟨a, cap, rfl, h2, h3, _⟩ := b2.1.2.shape
    clear b1 b2 b3 hne
    go_enter Tryz.func63, Tryz.ntmps63
    go_wp2_with fail
    go_ret
    refine ⟨rfl, ⟨⟨_, B1.out.far (by exact HNE.out) _, ?_, B4.out⟩, ?_⟩, (Fx.set w Bm 0 _).mono (fun _ e => .inr e)⟩
    · exact B2.out.fx (Fx.set w Bm 0 _) (fun b e k => by subst e; cases k.one B3.out.tag)
    · have := B3.out.set 0 (.bool true)
      show Box _ Bm #[.bool true] _
      simpa using this
  | cons x l =>
    obtain ⟨b, off, cap, rfl, h2, h3, hlt, hc⟩ := b2.1.2.at_ (by simp)
    have z0 : w.cell? ⟨b, off, none⟩ = some (.int .i64 x) := by have := hc 0 (by simp) 0 (by omega); simpa using this
    have hbl : b ≠ Bl := fun e => by have := b2.2 ⟨b, off, none⟩ _ _ rfl; rw [e] at this; cases this.one b1.tag
    have hcl : (x :: l).length = l.length + 1 := rfl
    clear b1 b3 hne hc
    by_cases hcap : cap = 1
    · subst hcap
      have hl0 : l = [] := List.length_eq_zero_iff.1 (by rw [hcl] at h2; omega)
      subst hl0
      clear b2 hcl
      go_enter Tryz.func63, Tryz.ntmps63
      go_wp2_with fail
      go_ret
      refine ⟨rfl, ⟨⟨.slice (some ⟨b, off, none⟩) 0 0, by have := B1.out.set 0 (.slice (some ⟨b, off, none⟩) 0 0); simpa using this, ?_, fun a n c e => by injection e with e _ _; injection e with e; subst e; exact B4.out ⟨b, off, none⟩ _ _ rfl⟩, B3.out.far (by exact HNE.out.symm) _⟩, (Fx.set w Bl 0 _).mono (fun _ e => .inl e)⟩
      exact B2.out.none_left.fx (Fx.set w Bl 0 _) (fun b e k => by subst e; cases k.one B1.out.tag)
    · clear b2
      have hc1 : 1 < cap := by rw [hcl] at h2; omega
      go_enter Tryz.func63, Tryz.ntmps63
      go_wp2_with fail
      go_ret
      refine ⟨rfl, ⟨⟨.slice (some ⟨b, off + 1, none⟩) l.length (cap - 1), by have := B1.out.set 0 (.slice (some ⟨b, off + 1, none⟩) l.length (cap - 1)); simpa using this, ?_, fun a n c e => by injection e with e _ _; injection e with e; subst e; exact B4.out ⟨b, off, none⟩ _ _ rfl⟩, B3.out.far (by exact HNE.out.symm) _⟩, (Fx.set w Bl 0 _).mono (fun _ e => .inl e)⟩
      exact B2.out.cut.fx (Fx.set w Bl 0 _) (fun b e k => by subst e; cases k.one B1.out.tag)

set_option maxRecDepth 100000 in
set_option maxHeartbeats 1000000 in
theorem done_c (w : World) (Bl Bm : Nat) (s : Tk) (h : TkAt w Bl Bm s) :
    Calls Tryz.prog 64 #[.pointer (some ⟨Bm, 0, none⟩), .pointer (some ⟨Bl, 0, none⟩)] w (RetB w (doneB s)) := by
  obtain ⟨l, m⟩ := s
  obtain ⟨⟨v, b1, b2, _⟩, b3⟩ := h
  simp only at b2 b3
  obtain ⟨a, cap, rfl, h2, h3, _⟩ := b2.1.2.shape
  have x0 : w.cell? ⟨Bl, 0, none⟩ = some (.slice a l.length cap) := b1.cell 0
  have y0 : w.cell? ⟨Bm, 0, none⟩ = some (.bool m) := b3.cell 0
  have l0 := b1.lt
  have l1 := b3.lt
  have HD : Hid (doneB (l, m) = (!m && (l.length == 0))) := rfl
  obtain ⟨d, hd⟩ : ∃ d, doneB (l, m) = d := ⟨_, rfl⟩
  rw [hd] at HD ⊢
  have hli : ((l.length : Int) == 0) = (l.length == 0) := by
    cases e : (l.length == 0)
    · rw [beq_eq_false_iff_ne] at e ⊢; omega
    · rw [beq_iff_eq] at e ⊢; omega
  obtain ⟨z, hz⟩ : ∃ z, (l.length == 0) = z := ⟨_, rfl⟩
  rw [hz] at HD hli
  clear b1 b2 b3 h2 h3 hd hz
  cases m with
  | false =>
    go_enter Tryz.func64, Tryz.ntmps64
    go_wp2_with fail
    go_ret
    exact ⟨by rw [HD.out]; simp, Below.refl _ _⟩
  | true =>
    go_enter Tryz.func64, Tryz.ntmps64
    go_wp2_with fail
    go_ret
    exact ⟨by rw [HD.out]; simp, Below.refl _ _⟩

set_option maxRecDepth 100000 in
set_option maxHeartbeats 1000000 in
theorem taker_c (w : World) (v : Value) (l : List Int) (h : SlIT w v l) :
    Calls Tryz.prog 50 #[v] w fun e w' => ∃ Bl Bm, w.heap.size ≤ Bl ∧ w.heap.size ≤ Bm ∧ e = .returned (.tuple #[.func (.func 63) #[] #[.pointer (some ⟨Bl, 0, none⟩), .pointer (some ⟨Bm, 0, none⟩)], .func (.func 64) #[] #[.pointer (some ⟨Bm, 0, none⟩), .pointer (some ⟨Bl, 0, none⟩)]]) ∧ TkAt w' Bl Bm (l, false) ∧ Below w.heap.size w w' := by
  obtain ⟨a, cap, rfl, h2, h3, _⟩ := h.1.2.shape
  have H := Lib.hid h
  clear h h2 h3
  go_enter Tryz.func50, Tryz.ntmps50
  go_wp2_with fail
  go_ret2
  have hb1 : Below w.heap.size w (w.alloc (.cells #[.slice a l.length cap] 54)) := (Below.refl _ _).alloc (Nat.le_refl _) _
  have hb2 : Below w.heap.size w ((w.alloc (.cells #[.slice a l.length cap] 54)).alloc (.cells #[.bool false] 4)) := hb1.alloc (by simp) _
  refine ⟨w.heap.size, w.heap.size + 1, Nat.le_refl _, Nat.le_succ _, rfl, ?_, ?_⟩
  · refine ⟨⟨_, (Box.new w _ _).alloc _, H.out.after ?_, fun a n c e => (H.out.2 a n c e).lt⟩, ?_⟩
    · exact hb2
    · have := Box.new (w.alloc (.cells #[.slice a l.length cap] 54)) #[.bool false] 4
      rw [World.size_alloc] at this
      exact this
  · exact hb2
end Go.Proofs.YtpaoeeamlinaaaaGreatDoor
