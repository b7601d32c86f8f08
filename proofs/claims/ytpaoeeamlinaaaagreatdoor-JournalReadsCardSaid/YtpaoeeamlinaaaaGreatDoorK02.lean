/- Journal, plain: what reading a text finds. No program in sight.
   Journal, memory words: slices that read as numbers, steps, lists of numbers; plans and records.
   Journal: strings.Builder: copyCheck and WriteString (String by the kit's contract).
   Journal, plain: one byte changed. No program in sight. -/
import Derived.Test.YtpaoeeamlinaaaaGreatDoorK01
import Derived.Test.YtpaoeeamlinaaaaGreatDoorProg
import Derived.WalkKit
import Derived.WalkLawsBesides
import Derived.WalkSpells
import Derived.Deep.OwnRows
import Derived.Deep.Draws
import Derived.Laws.IdiomStrings
import Derived.Lib.Hide
import Derived.Deep.LoopGhost
import Derived.Deep.QuietTactic
import Derived.BigQuiet
import Derived.BigRegion
import Derived.Deep.CutBlock
import Derived.Deep.DeepCutAuto
import Derived.Deep.RegionHeld3
import Derived.Deep.RegionLaw
import Derived.Deep.RegionWith
import Derived.OwnWalk
import Derived.Shelf.Strings.BuilderK
set_option linter.unusedVariables false
namespace Go.Proofs.YtpaoeeamlinaaaaGreatDoor
open Go

/-- Up to the first c, and what stands behind it. -/
def cutC (c : UInt8) : List UInt8 → Option (List UInt8 × List UInt8)
  | [] => none
  | x :: l => if x = c then some ([], l) else (cutC c l).map fun p => (x :: p.1, p.2)
theorem cutC_app {c : UInt8} : ∀ {a b : List UInt8}, (∀ x ∈ a, x ≠ c) → cutC c (a ++ c :: b) = some (a, b)
  | [], b, _ => by simp [cutC]
  | x :: a, b, h => by
    rw [List.cons_append, cutC, if_neg (h x (by simp)), cutC_app (fun y hy => h y (by simp [hy]))]
    rfl
theorem cutC_none {c : UInt8} : ∀ {l : List UInt8}, (∀ x ∈ l, x ≠ c) → cutC c l = none
  | [], _ => rfl
  | x :: l, h => by rw [cutC, if_neg (h x (by simp)), cutC_none (fun y hy => h y (by simp [hy]))]; rfl
theorem cutC_spec {c : UInt8} : ∀ {l : List UInt8}, (cutC c l = none ∧ ∀ x ∈ l, x ≠ c) ∨ ∃ a b, cutC c l = some (a, b) ∧ l = a ++ c :: b ∧ ∀ x ∈ a, x ≠ c
  | [] => .inl ⟨rfl, fun x h => by simp at h⟩
  | x :: l => by
    by_cases hx : x = c
    · right
      subst hx
      exact ⟨[], l, by simp [cutC], rfl, fun y h => by simp at h⟩
    · rcases cutC_spec (c := c) (l := l) with ⟨h1, h2⟩ | ⟨a, b, h1, h2, h3⟩
      · left
        exact ⟨by rw [cutC, if_neg hx, h1]; rfl, fun y hy => by
          rcases List.mem_cons.1 hy with h | h
          · rw [h]; exact hx
          · exact h2 y h⟩
      · right
        refine ⟨x :: a, b, by rw [cutC, if_neg hx, h1]; rfl, by rw [h2]; rfl, fun y hy => ?_⟩
        rcases List.mem_cons.1 hy with h | h
        · rw [h]; exact hx
        · exact h3 y h
/-- What a line is read as. -/
noncomputable def recF (line : List UInt8) : Rec × Int := open Classical in
  match cutC 35 line with
  | none => (Rec.none, 4)
  | some (a, b) => if 4 < b.length then (Rec.none, 4) else match numF b with
    | none => (Rec.none, 4)
    | some n => if n ≠ sumT a then (Rec.none, 17) else if h : ∃ r, CanW r ∧ lineT r = line ++ [10] then (Classical.choose h, 0) else (Rec.none, 4)
theorem sum_digits (l : List UInt8) : (dd (sumT l)).length ≤ 4 := dd_len 4 _ (by omega) (Nat.lt_trans (sumT_lt l) (by decide))
theorem rec_line {r : Rec} {l : List UInt8} (h : CanW r) (e : lineT r = l ++ [10]) : recF l = (r, 0) := by
  have hl : l = frontT r ++ 35 :: dd (sumT (frontT r)) := by
    have : frontT r ++ 35 :: dd (sumT (frontT r)) ++ [10] = l ++ [10] := by rw [← e]; simp [lineT]
    exact (List.append_cancel_right this).symm
  have hex : ∃ r, CanW r ∧ lineT r = l ++ [10] := ⟨r, h, e⟩
  unfold recF
  rw [hl, cutC_app (fun x hx => (front_no hx).1)]
  simp only
  rw [if_neg (Nat.not_lt.2 (sum_digits _)), numF_dd (Nat.lt_trans (sumT_lt _) (by decide))]
  simp only
  rw [if_neg (by simp), ← hl, dif_pos hex]
  have hc := Classical.choose_spec hex
  rw [line_inj hc.1 h (hc.2.trans e.symm)]
theorem rec_ok {l : List UInt8} (h : (recF l).2 = 0) : CanW (recF l).1 ∧ lineT (recF l).1 = l ++ [10] := by
  by_cases hex : ∃ r, CanW r ∧ lineT r = l ++ [10]
  · obtain ⟨r, h1, h2⟩ := hex
    rw [rec_line h1 h2]
    exact ⟨h1, h2⟩
  · exfalso
    unfold recF at h
    rw [dif_neg hex] at h
    revert h
    split
    · simp
    · split
      · simp
      · split
        · simp
        · split <;> simp
theorem rec_bad {l : List UInt8} (h : ¬ ∃ r, CanW r ∧ lineT r = l ++ [10]) : (recF l).2 ≠ 0 := fun e => h ⟨_, rec_ok e⟩
/-- Reading goes on. -/
noncomputable def readGo : Nat → List Rec → Nat → List UInt8 → List Rec × Nat × Int
  | 0, out, n, _ => (out, n, 0)
  | k + 1, out, n, rest => match cutC 10 rest with
    | none => (out, n, 0)
    | some (line, behind) => if (recF line).2 ≠ 0 then (out, n, (recF line).2) else if out.length = 400 then (out, n, 3) else readGo k (out ++ [(recF line).1]) (n + line.length + 1) behind
noncomputable def readF (text : List UInt8) : List Rec × Nat × Int := readGo (text.length + 1) [] 0 text
theorem readGo_fuel : ∀ (k k' : Nat) (out : List Rec) (n : Nat) (rest : List UInt8), rest.length < k → rest.length < k' → readGo k out n rest = readGo k' out n rest
  | 0, _, _, _, _, h, _ => absurd h (by omega)
  | _ + 1, 0, _, _, _, _, h => absurd h (by omega)
  | k + 1, k' + 1, out, n, rest, h, h' => by
    unfold readGo
    rcases cutC_spec (c := 10) (l := rest) with ⟨e, _⟩ | ⟨a, b, e, e2, _⟩
    · rw [e]
    · rw [e]
      simp only
      have hb : b.length < k ∧ b.length < k' := by rw [e2] at h h'; simp at h h'; omega
      rw [readGo_fuel k k' _ _ b hb.1 hb.2]
/-- One more line. -/
theorem read_one {r : Rec} {out : List Rec} {n k : Nat} {rest : List UInt8} (h : CanW r) (ho : out.length < 400) (hk : (lineT r ++ rest).length < k) : readGo k out n (lineT r ++ rest) = readGo k (out ++ [r]) (n + (lineT r).length) rest := by
  obtain ⟨l, hl, hno⟩ : ∃ l, lineT r = l ++ [10] ∧ ∀ x ∈ l, x ≠ 10 := by
    refine ⟨frontT r ++ 35 :: dd (sumT (frontT r)), by simp [lineT], fun x hx => ?_⟩
    rcases List.mem_append.1 hx with h | h
    · exact (front_no h).2
    · rcases List.mem_cons.1 h with h | h
      · rw [h]; decide
      · exact dd_no h 10 (by decide)
  obtain ⟨k, rfl⟩ : ∃ k', k = k' + 1 := ⟨k - 1, by omega⟩
  rw [hl, List.append_assoc, List.singleton_append]
  conv => lhs; unfold readGo
  rw [cutC_app hno]
  simp only
  rw [rec_line h hl, if_neg (by simp), if_neg (by omega), List.length_append, List.length_singleton, ← Nat.add_assoc]
  rw [hl] at hk
  simp at hk
  exact readGo_fuel _ _ _ _ _ (by omega) (by omega)
theorem read_lines : ∀ {l : List Rec} {out : List Rec} {n k : Nat} {rest : List UInt8}, (∀ r ∈ l, CanW r) → out.length + l.length ≤ 400 → (l.flatMap lineT ++ rest).length < k → readGo k out n (l.flatMap lineT ++ rest) = readGo k (out ++ l) (n + (l.flatMap lineT).length) rest
  | [], out, n, k, rest, _, _, _ => by simp
  | r :: l, out, n, k, rest, h, ho, hk => by
    rw [List.flatMap_cons, List.append_assoc] at hk ⊢
    rw [read_one (h r (by simp)) (by simp at ho; omega) hk, read_lines (fun x hx => h x (by simp [hx])) (by simp at ho ⊢; omega) (by simp at hk ⊢; omega)]
    simp [Nat.add_assoc]
theorem read_torn {out : List Rec} {n k : Nat} {rest : List UInt8} (hno : ∀ x ∈ rest, x ≠ 10) : readGo k out n rest = (out, n, 0) := by
  cases k with
  | zero => rfl
  | succ k => unfold readGo; rw [cutC_none hno]
/-- What Lines returns. -/
def linesF (l : List Rec) : List UInt8 × Int := if 400 < l.length then ([], 3) else if ∀ r ∈ l, CanW r then (l.flatMap lineT, 0) else ([], 1)
theorem read_round {l : List Rec} (h : (linesF l).2 = 0) : readF (linesF l).1 = (l, (linesF l).1.length, 0) := by
  unfold linesF at h ⊢
  by_cases h1 : 400 < l.length
  · rw [if_pos h1] at h; simp at h
  · rw [if_neg h1] at h ⊢
    by_cases h2 : ∀ r ∈ l, CanW r
    · rw [if_pos h2]
      unfold readF
      simp only
      have := read_lines (out := []) (n := 0) (k := (l.flatMap lineT).length + 1) (rest := []) h2 (by simp; omega) (by simp)
      rw [List.append_nil] at this
      rw [this, read_torn (by simp)]
      simp
    · rw [if_neg h2] at h; simp at h
/-- The lines of what is read are the part that was read. -/
theorem read_written : ∀ (k : Nat) (out : List Rec) (n : Nat) (rest all : List UInt8), (∀ r ∈ out, CanW r) → out.length ≤ 400 → out.flatMap lineT = all.take n → all.drop n = rest → n ≤ all.length →
    (∀ r ∈ (readGo k out n rest).1, CanW r) ∧ (readGo k out n rest).1.length ≤ 400 ∧ (readGo k out n rest).1.flatMap lineT = all.take (readGo k out n rest).2.1 ∧ (readGo k out n rest).2.1 ≤ all.length
  | 0, out, n, rest, all, h1, h2, h3, _, h5 => ⟨h1, h2, h3, h5⟩
  | k + 1, out, n, rest, all, h1, h2, h3, h4, h5 => by
    unfold readGo
    rcases cutC_spec (c := 10) (l := rest) with ⟨e, _⟩ | ⟨a, b, e, e2, _⟩
    · rw [e]; exact ⟨h1, h2, h3, h5⟩
    · rw [e]
      simp only
      by_cases g1 : (recF a).2 ≠ 0
      · rw [if_pos g1]; exact ⟨h1, h2, h3, h5⟩
      · rw [if_neg g1]
        by_cases g2 : out.length = 400
        · rw [if_pos g2]; exact ⟨h1, h2, h3, h5⟩
        · rw [if_neg g2]
          have hr := rec_ok (Decidable.not_not.1 g1)
          have hlen : (all.drop n).length = a.length + 1 + b.length := by rw [h4, e2]; simp; omega
          rw [List.length_drop] at hlen
          refine read_written k (out ++ [(recF a).1]) (n + a.length + 1) b all (fun r hx => ?_) (by simp; omega) ?_ ?_ (by omega)
          · rcases List.mem_append.1 hx with h | h
            · exact h1 r h
            · rw [List.mem_singleton.1 h]; exact hr.1
          · rw [List.flatMap_append, h3]
            simp only [List.flatMap_cons, List.flatMap_nil, List.append_nil]
            rw [hr.2, Nat.add_assoc, List.take_add, h4, e2]
            congr 1
            rw [show a ++ 10 :: b = (a ++ [10]) ++ b by simp]
            exact (List.take_left' (by simp)).symm
          · rw [Nat.add_assoc, ← List.drop_drop, h4, e2]
            simp
theorem readF_written (text : List UInt8) : linesF (readF text).1 = (text.take (readF text).2.1, 0) ∧ (readF text).2.1 ≤ text.length := by
  obtain ⟨h1, h2, h3, h4⟩ := read_written (text.length + 1) [] 0 text text (by simp) (by simp) (by simp) (by simp) (by omega)
  refine ⟨?_, h4⟩
  unfold linesF
  rw [if_neg (by unfold readF; omega), if_pos (by unfold readF; exact h1)]
  unfold readF
  rw [h3]
theorem line_len {r : Rec} : 0 < (lineT r).length := by simp [lineT]; omega
/-- A part of a line without its line feed has no line feed. -/
theorem line_take {r : Rec} {k : Nat} (h : k < (lineT r).length) : ∀ x ∈ (lineT r).take k, x ≠ 10 := by
  intro x hx
  have e : lineT r = (frontT r ++ 35 :: dd (sumT (frontT r))) ++ [10] := by simp [lineT]
  have hl : k ≤ (frontT r ++ 35 :: dd (sumT (frontT r))).length := by rw [e] at h; simp at h ⊢; omega
  rw [e, List.take_append_of_le_length hl] at hx
  have hx := List.mem_of_mem_take hx
  rcases List.mem_append.1 hx with h | h
  · exact (front_no h).2
  · rcases List.mem_cons.1 h with h | h
    · rw [h]; decide
    · exact dd_no h 10 (by decide)
/-- How many lines lie whole within the first k bytes, and how many bytes they have. -/
def wholeN : List Rec → Nat → Nat × Nat
  | [], _ => (0, 0)
  | r :: l, k => if (lineT r).length ≤ k then let p := wholeN l (k - (lineT r).length); (p.1 + 1, p.2 + (lineT r).length) else (0, 0)
theorem wholeN_front : ∀ (l : List Rec) (k : Nat), (∃ rest, (l.flatMap lineT).take k = (l.take (wholeN l k).1).flatMap lineT ++ rest ∧ ∀ x ∈ rest, x ≠ 10) ∧ ((l.take (wholeN l k).1).flatMap lineT).length = (wholeN l k).2 ∧ (wholeN l k).1 ≤ l.length
  | [], k => ⟨⟨[], by simp [wholeN], by simp⟩, by simp [wholeN], by simp [wholeN]⟩
  | r :: l, k => by
    unfold wholeN
    by_cases h : (lineT r).length ≤ k
    · rw [if_pos h]
      obtain ⟨⟨rest, e1, e2⟩, e3, e4⟩ := wholeN_front l (k - (lineT r).length)
      refine ⟨⟨rest, ?_, e2⟩, ?_, by simp; omega⟩
      · rw [List.flatMap_cons, List.take_append, List.take_of_length_le h, e1]
        simp
      · simp only [List.take_succ_cons, List.flatMap_cons, List.length_append, e3]
        omega
    · rw [if_neg h]
      refine ⟨⟨(lineT r).take k, ?_, line_take (by omega)⟩, by simp, by simp⟩
      rw [List.flatMap_cons, List.take_append_of_le_length (by omega)]
      simp
/-- Of a front of some lines the records are read whose lines are whole. -/
theorem read_front {l : List Rec} (h : ∀ r ∈ l, CanW r) (hl : l.length ≤ 400) (k : Nat) : readF ((l.flatMap lineT).take k) = (l.take (wholeN l k).1, (wholeN l k).2, 0) := by
  obtain ⟨⟨rest, e1, e2⟩, e3, e4⟩ := wholeN_front l k
  unfold readF
  have hx : ∀ r ∈ l.take (wholeN l k).1, CanW r := fun r hr => h r (List.mem_of_mem_take hr)
  rw [e1, read_lines hx (by simp; omega) (by omega), read_torn e2, e3]
  simp
end Go.Proofs.YtpaoeeamlinaaaaGreatDoor

namespace Go.Proofs.YtpaoeeamlinaaaaGreatDoor
open Go.RowKit

def bs (l : List UInt8) : ByteArray := ⟨l.toArray⟩
theorem bs_inj {a b : List UInt8} (h : bs a = bs b) : a = b := by
  have := congrArg (fun x => x.data.toList) h
  exact this
theorem ret_bool {a b : Bool} (h : a = b) : Ending.returned (.bool a) = .returned (.bool b) := by rw [h]
theorem below_drewN (w : World) (n B : Nat) : Below B w (w.drewN n) := ⟨rfl, rfl, rfl, Nat.le_refl _, fun _ _ => rfl⟩
theorem below_dr {B : Nat} {w W : World} (h : Below B w W) : Below B w W.drew := h.trans ⟨rfl, rfl, rfl, Nat.le_refl _, fun _ _ => rfl⟩
theorem held_alloc {B : Nat} {w W : World} {o : Obj} (h : Below B w W) (hB : B ≤ W.heap.size := by omega) : Below B w (W.alloc o) := h.alloc hB o
/-- A cell that was there is still there after calls that leave what was there. -/
theorem keep_cell {W w1 : World} (hb : Below W.heap.size W w1) {b o : Nat} {v : Value} (h : W.cell? ⟨b, o, none⟩ = some v) : w1.cell? ⟨b, o, none⟩ = some v :=
  (hb.cell (p := ⟨b, o, none⟩) (World.block_lt_of_cell? W _ h)).trans h
/-- A block of cells that was there is still there. -/
def Box (w : World) (b : Nat) (cs : Array Value) (t : TypeId) : Prop := w.heap[b]? = some (.cells cs t (0, 0))
section
variable {w w' : World} {b : Nat} {cs : Array Value} {t : TypeId}
theorem Box.new (w : World) (cs : Array Value) (t : TypeId) : Box (w.alloc (.cells cs t)) w.heap.size cs t := heap_alloc_new w _
theorem Box.lt (h : Box w b cs t) : b < w.heap.size := (Array.getElem?_eq_some_iff.1 h).1
theorem Box.after (h : Box w b cs t) (hb : Below w.heap.size w w') : Box w' b cs t := (hb.block b h.lt).trans h
theorem Box.alloc (h : Box w b cs t) (o : Obj) : Box (w.alloc o) b cs t := (Below.heap_alloc w o b h.lt).trans h
theorem Box.cell (h : Box w b cs t) (i : Nat) : w.cell? ⟨b, i, none⟩ = cs[i]? := cell_of_row w b i cs t (0, 0) h
theorem Box.frozen (h : Box w b cs t) (i : Nat) : w.frozen? ⟨b, i, none⟩ = false := by unfold Box at h; simp [World.frozen?, h]
theorem Box.far (h : Box w b cs t) {p : Addr} (hp : b ≠ p.block) (u : Value) : Box (w.setCell p u) b cs t := (Below.heap_setCell w p u b hp).trans h
end
def In64 (z : Int) : Prop := -9223372036854775808 ≤ z ∧ z ≤ 9223372036854775807

/-- The slice value v has n elements of k cells each; cell j of element i is f i j. -/
def SlC (w : World) (v : Value) (n k : Nat) (f : Nat → Nat → Value) : Prop :=
  ∃ (a : Option Addr) (cap : Nat), v = .slice a n cap ∧ n ≤ cap ∧ cap ≤ 9223372036854775807 ∧ (a = none → cap = 0) ∧
    (0 < n → ∃ b off, a = some ⟨b, off, none⟩ ∧ b < w.heap.size ∧ ∀ i, i < n → ∀ j, j < k → w.cell? ⟨b, off + i * k + j, none⟩ = some (f i j))
section
variable {w w' : World} {v : Value} {n k : Nat} {f : Nat → Nat → Value}
theorem SlC.after (h : SlC w v n k f) (hb : Below w.heap.size w w') : SlC w' v n k f := by
  obtain ⟨a, cap, h1, h2, h3, h4, h5⟩ := h
  refine ⟨a, cap, h1, h2, h3, h4, fun hn => ?_⟩
  obtain ⟨b, off, e, hlt, hc⟩ := h5 hn
  exact ⟨b, off, e, Nat.lt_of_lt_of_le hlt hb.size, fun i hi j hj => keep_cell hb (hc i hi j hj)⟩
theorem SlC.nil (w : World) (k : Nat) (f : Nat → Nat → Value) : SlC w (.slice none 0 0) 0 k f := ⟨none, 0, rfl, by omega, by omega, fun _ => rfl, fun h => by omega⟩
theorem SlC.shape (h : SlC w v n k f) : ∃ a cap, v = .slice a n cap ∧ n ≤ cap ∧ cap ≤ 9223372036854775807 ∧ (a = none → cap = 0) := by
  obtain ⟨a, cap, h1, h2, h3, h4, _⟩ := h
  exact ⟨a, cap, h1, h2, h3, h4⟩
theorem SlC.at_ (h : SlC w v n k f) (hn : 0 < n) : ∃ b off cap, v = .slice (some ⟨b, off, none⟩) n cap ∧ n ≤ cap ∧ cap ≤ 9223372036854775807 ∧ b < w.heap.size ∧ ∀ i, i < n → ∀ j, j < k → w.cell? ⟨b, off + i * k + j, none⟩ = some (f i j) := by
  obtain ⟨a, cap, h1, h2, h3, _, h5⟩ := h
  obtain ⟨b, off, e, hlt, hc⟩ := h5 hn
  exact ⟨b, off, cap, by rw [h1, e], h2, h3, hlt, hc⟩
end
/-- A slice of ints. -/
def SlI (w : World) (v : Value) (l : List Int) : Prop := (∀ z ∈ l, In64 z) ∧ SlC w v l.length 1 (fun i _ => .int .i64 (l.getD i 0))
theorem SlI.after {w w' : World} {v : Value} {l : List Int} (h : SlI w v l) (hb : Below w.heap.size w w') : SlI w' v l := ⟨h.1, h.2.after hb⟩
theorem SlI.in64 {w : World} {v : Value} {l : List Int} (h : SlI w v l) (i : Nat) : In64 (l.getD i 0) := by
  rcases Nat.lt_or_ge i l.length with hi | hi
  · rw [List.getD_eq_getElem?_getD, List.getElem?_eq_getElem hi]; exact h.1 _ (List.getElem_mem hi)
  · rw [List.getD_eq_getElem?_getD, List.getElem?_eq_none hi]; exact ⟨by simp, by simp⟩
/-- A slice of steps. -/
def stp0 : Stp := ⟨0, 0, 0, 0⟩
def stpC (s : Stp) (j : Nat) : Value := match j with
  | 0 => .int .u8 (s.kind : Int)
  | 1 => .int .i64 s.host
  | 2 => .int .i64 s.srv
  | _ => .int .i64 s.ver
def StpOk (s : Stp) : Prop := s.kind < 256 ∧ In64 s.host ∧ In64 s.srv ∧ In64 s.ver
def SlS (w : World) (v : Value) (l : List Stp) : Prop := (∀ s ∈ l, StpOk s) ∧ SlC w v l.length 4 (fun i j => stpC (l.getD i stp0) j)
theorem SlS.after {w w' : World} {v : Value} {l : List Stp} (h : SlS w v l) (hb : Below w.heap.size w w') : SlS w' v l := ⟨h.1, h.2.after hb⟩
/-- A slice of slices of ints. -/
def SlL (w : World) (v : Value) (l : List (List Int)) : Prop := ∃ u : Nat → Value, SlC w v l.length 1 (fun i _ => u i) ∧ ∀ i, i < l.length → SlI w (u i) (l.getD i [])
theorem SlL.after {w w' : World} {v : Value} {l : List (List Int)} (h : SlL w v l) (hb : Below w.heap.size w w') : SlL w' v l := by
  obtain ⟨u, h1, h2⟩ := h
  exact ⟨u, h1.after hb, fun i hi => (h2 i hi).after hb⟩
theorem SlI.nil (w : World) : SlI w (.slice none 0 0) [] := ⟨by simp, SlC.nil w 1 _⟩
theorem SlS.nil (w : World) : SlS w (.slice none 0 0) [] := ⟨by simp, SlC.nil w 4 _⟩
theorem SlL.nil (w : World) : SlL w (.slice none 0 0) [] := ⟨fun _ => undef, SlC.nil w 1 _, fun i hi => by simp at hi⟩
/-- A record. -/
def RecOk (r : Rec) : Prop := r.kind < 256 ∧ In64 r.place ∧ In64 r.id ∧ In64 r.lease ∧ r.ans < 256
def recV (r : Rec) (vs va : Value) : Array Value := #[.int .u8 (r.kind : Int), .int .i64 r.place, .int .i64 r.id, .int .i64 r.lease, .int .u8 (r.ans : Int), vs, va]
def IsR (w : World) (v : Value) (r : Rec) : Prop := RecOk r ∧ ∃ vs va, v = .agg (recV r vs va) ∧ SlS w vs r.steps ∧ SlL w va r.after
theorem IsR.after {w w' : World} {v : Value} {r : Rec} (h : IsR w v r) (hb : Below w.heap.size w w') : IsR w' v r := by
  obtain ⟨h0, vs, va, e, h1, h2⟩ := h
  exact ⟨h0, vs, va, e, h1.after hb, h2.after hb⟩
/-- A function that answers yes or no and leaves memory as it was. -/
def RetB (w : World) (p : Bool) (e : Ending) (w' : World) : Prop := e = .returned (.bool p) ∧ Below w.heap.size w w'
/-- Two lists are equal where their elements are. -/
theorem eq_or_differ {α : Type} [DecidableEq α] (d : α) (l m : List α) (h : l.length = m.length) : l = m ∨ ∃ i, i < l.length ∧ l.getD i d ≠ m.getD i d ∧ ∀ j, j < i → l.getD j d = m.getD j d := by
  induction l generalizing m with
  | nil => left; cases m with
    | nil => rfl
    | cons y m => simp at h
  | cons x l ih => cases m with
    | nil => simp at h
    | cons y m =>
      by_cases hxy : x = y
      · subst hxy
        rcases ih m (by simpa using h) with e | ⟨i, h1, h2, h3⟩
        · left; rw [e]
        · right
          refine ⟨i + 1, by simpa using h1, by simpa using h2, fun j hj => ?_⟩
          cases j with
          | zero => rfl
          | succ j => simpa using h3 j (by omega)
      · right
        exact ⟨0, by simp, by simpa using hxy, fun j hj => by omega⟩
end Go.Proofs.YtpaoeeamlinaaaaGreatDoor

namespace Go.Proofs.YtpaoeeamlinaaaaGreatDoor
open Go.RowKit

/-- A builder at block b, that has been written l. -/
def IsB (w : World) (B b : Nat) (l : List UInt8) : Prop := Lib.IsBuilderF 75 5 B b (Lib.byteCells l) w
theorem infoByteJ : (Tryz.prog.info? 5).map (fun i => (i.zero, i.size, i.bytes)) = some (some (.int .u8 0), 1, 1) := by kernel_rfl
theorem IsB.new (w : World) {B : Nat} (hB : B ≤ w.heap.size) : IsB (w.alloc (.cells #[.pointer none, .slice none 0 0] 75)) B w.heap.size [] :=
  .inl ⟨hB, _, Box.new w _ _, ⟨by simp [Lib.byteCells], .inl ⟨rfl, by simp [Lib.byteCells]⟩⟩, by simp [Value.ownBlock]⟩
theorem IsB.after {w w' : World} {B b : Nat} {l : List UInt8} (h : IsB w B b l) (hb : Below w.heap.size w w') : IsB w' B b l := by
  have hg : w.grownBy w' none := ⟨hb.os, hb.tape, hb.output, hb.size, fun k hk _ => hb.block k hk⟩
  rcases h with h | h
  · have hlt := h.lt
    obtain ⟨hB, v, hv, hown, hne⟩ := h
    exact .inl ⟨hB, v, (hb.block b hlt).trans hv, hown.kept hg (Classical.em _), hne⟩
  · have hlt := h.lt
    obtain ⟨hB, v, hv, hown, hne⟩ := h
    exact .inr ⟨hB, v, (hb.block b hlt).trans hv, hown.kept hg (Classical.em _), hne⟩

set_option maxRecDepth 100000 in
set_option maxHeartbeats 1000000 in
theorem check_fresh (b : Nat) (w : World) (h0 : w.cell? ⟨b, 0, none⟩ = some (.pointer none)) (hsh : w.shape? b = some (75, 2)) (hfz : w.frozen? ⟨b, 0, none⟩ = false) :
    Calls Tryz.prog 55 #[.pointer (some ⟨b, 0, none⟩)] w fun e w' => e = .returned (.tuple #[]) ∧ w' = w.setCell ⟨b, 0, none⟩ (.pointer (some ⟨b, 0, none⟩)) := by
  obtain ⟨j, hj, hjs⟩ := Option.map_eq_some_iff.1 (show (Tryz.prog.info? 75).map (·.size) = some 2 by kernel_rfl)
  have hlies : liesAt Tryz.prog Tryz.prog.depth 75 (2 / Tryz.prog.cellsOf 75) 0 75 1 = true := by kernel_rfl
  go_enter Tryz.func55, Tryz.ntmps55
  go_wp2
  rw [Lib.run_to_unsafe w ⟨b, 0, none⟩ Tryz.underlying73 Tryz.underlying102 hj (by rw [hjs]; decide) hsh (Nat.zero_lt_succ 1)]
  simp only [Result.andThen]
  rw [Oper.upon_value]
  go_wp2
  rw [run_callFunc_extern Tryz.func67 (by kernel_rfl) (by kernel_rfl) (by kernel_rfl) (e := Extern.AbiNoEscape.same) (by kernel_rfl)]
  rw [Lib.run_noEscape]
  simp only [Result.andThen]
  rw [Oper.upon_value]
  go_wp2
  rw [Lib.run_from_unsafe w ⟨b, 0, none⟩ Tryz.underlying102 Tryz.underlying73 hj hsh hlies]
  simp only [Result.andThen]
  rw [Oper.upon_value]
  go_wp2
  go_end0
  exact ⟨rfl, rfl⟩
set_option maxRecDepth 100000 in
set_option maxHeartbeats 1000000 in
theorem check_used (b : Nat) (w : World) (h0 : w.cell? ⟨b, 0, none⟩ = some (.pointer (some ⟨b, 0, none⟩))) :
    Calls Tryz.prog 55 #[.pointer (some ⟨b, 0, none⟩)] w fun e w' => e = .returned (.tuple #[]) ∧ w' = w := by
  obtain ⟨j, hj, _⟩ := Option.map_eq_some_iff.1 (show (Tryz.prog.info? 75).map (·.size) = some 2 by kernel_rfl)
  go_enter Tryz.func55, Tryz.ntmps55
  go_wp2
  rw [Lib.run_neq_ptr_same w _ Tryz.underlying73 hj]
  go_wp2
  go_end0
  exact ⟨rfl, rfl⟩
theorem check_c (B b : Nat) (l : List UInt8) (w : World) (h : IsB w B b l) :
    Calls Tryz.prog 55 #[.pointer (some ⟨b, 0, none⟩)] w fun e w' => e = .returned (.tuple #[]) ∧ Lib.BuilderAtF 75 5 B b (.pointer (some ⟨b, 0, none⟩)) (Lib.byteCells l) w' ∧ Below B w w' := by
  rcases h with h | h
  · refine (check_fresh b w h.cell0 h.shape h.frozen0).mono ?_
    rintro e w' ⟨rfl, rfl⟩
    exact ⟨rfl, h.used _, (Below.refl B w).setCell (p := ⟨b, 0, none⟩) h.1 _⟩
  · refine (check_used b w h.cell0).mono ?_
    rintro e w' ⟨rfl, rfl⟩
    exact ⟨rfl, h, Below.refl B _⟩
theorem bs_size (m : List UInt8) : (bs m).size = m.length := rfl
set_option maxRecDepth 100000 in
set_option maxHeartbeats 2000000 in
theorem write_c (B b : Nat) (l m : List UInt8) (w : World) (h : IsB w B b l) (hlen : l.length + m.length ≤ 1000000000) (hBw : B ≤ w.heap.size) :
    Calls Tryz.prog 38 #[.pointer (some ⟨b, 0, none⟩), .string (bs m)] w fun e w' => e = .returned (.tuple #[.int .i64 (m.length : Int), .nilIface]) ∧ IsB w' B b (l ++ m) ∧ Below B w w' := by
  obtain ⟨i0, hi, hz0, hz1, hz2⟩ := info_parts infoByteJ
  have hsz := bs_size m
  go_enter Tryz.func38, Tryz.ntmps38
  go_wp2_with fail
  refine (check_c B b l w h).mono ?_
  rintro e w1 ⟨rfl, h1, hb1⟩
  obtain ⟨hB, v, hbk, hown, hne⟩ := h1
  have c0 : w1.cell? ⟨b, 0, none⟩ = some (.pointer (some ⟨b, 0, none⟩)) := by rw [Lib.cell_of_heap hbk]; rfl
  have c1 : w1.cell? ⟨b, 1, none⟩ = some v := by rw [Lib.cell_of_heap hbk]; rfl
  have hbl : (Lib.byteCells l).length = l.length := Lib.byteCells_length l
  go_wp2_with (at_builtin; refine Lib.wpList_append_own_stringF _ rfl _ _ 48 9 rfl B 5 i0 Tryz.underlying48 Tryz.underlying9 hi hz0 hz1 hz2 _ _ _ rfl hown (bs m) rfl ?c3 ?c4 ?c5 ?_)
  case c3 => unfold maxLen; omega
  case c4 => omega
  case c5 => have := hb1.size; omega
  intro v' w2 hown' hgrow _
  have hlt : b < w1.heap.size := by
    rcases Nat.lt_or_ge b w1.heap.size with h' | h'
    · exact h'
    · simp [Array.getElem?_eq_none h'] at hbk
  have hb2 : w2.heap[b]? = some (.cells #[.pointer (some ⟨b, 0, none⟩), v] 75 (0, 0)) := by
    rw [hgrow.block b hlt (fun e => hne e.symm)]
    exact hbk
  have d0 : w2.cell? ⟨b, 0, none⟩ = some (.pointer (some ⟨b, 0, none⟩)) := by rw [Lib.cell_of_heap hb2]; rfl
  have d1 : w2.cell? ⟨b, 1, none⟩ = some v := by rw [Lib.cell_of_heap hb2]; rfl
  have f1 : w2.frozen? ⟨b, 1, none⟩ = false := Lib.frozen_of_heap hb2 1
  obtain ⟨ao, n', cap, rfl⟩ : ∃ ao n' cap, v' = .slice ao n' cap := by
    rcases hown'.2 with ⟨hv, _⟩ | ⟨g, cap, cur, fz, hv, _⟩
    · exact ⟨_, _, _, hv⟩
    · exact ⟨_, _, _, hv⟩
  have hap : Lib.byteCells (l ++ m) = Lib.byteCells l ++ Lib.strCells (bs m) := by simp [Lib.byteCells, Lib.strCells, bs]
  go_wp2
  go_ret2
  refine ⟨rfl, ?_, ?_⟩
  · refine .inr ?_
    rw [hap]
    exact Lib.BuilderAtF.put hB hb2 (by rw [List.length_append, hbl, Lib.strCells_length, hsz]; exact hown') (by decide)
  · exact (hb1.grown hgrow (by have := hb1.size; omega) (fun k hk => (hown.lt k hk).1)).setCell (p := ⟨b, 1, none⟩) hB _
theorem string_c (B b : Nat) (l : List UInt8) (w : World) (h : IsB w B b l) (hBw : B ≤ w.heap.size) :
    Calls Tryz.prog 39 #[.pointer (some ⟨b, 0, none⟩)] w fun e w' => e = .returned (.string (bs l)) ∧ IsB w' B b l ∧ Below B w w' :=
  (Tryz.Builder_String_any_k B b l w h hBw).mono fun e w' hh => ⟨hh.1, hh.2.1, hh.2.2.1⟩
end Go.Proofs.YtpaoeeamlinaaaaGreatDoor

namespace Go.Proofs.YtpaoeeamlinaaaaGreatDoor
open Go

/-- A first line that is no line of a record. -/
theorem read_bad {out : List Rec} {n k : Nat} {a b : List UInt8} (hno : ∀ x ∈ a, x ≠ 10) (hbad : ∀ r, a ≠ frontT r ++ 35 :: dd (sumT (frontT r))) : ∃ e, readGo (k + 1) out n (a ++ 10 :: b) = (out, n, e) ∧ e ≠ 0 := by
  have h : (recF a).2 ≠ 0 := rec_bad (by
    rintro ⟨r, _, h2⟩
    refine hbad r ?_
    have : frontT r ++ 35 :: dd (sumT (frontT r)) ++ [10] = a ++ [10] := by rw [← h2]; simp [lineT]
    exact (List.append_cancel_right this).symm)
  unfold readGo
  rw [cutC_app hno]
  simp only
  rw [if_pos h]
  exact ⟨_, rfl, h⟩
theorem dd_no35 {n : Nat} {l m : List UInt8} : dd n ≠ l ++ 35 :: m := fun e => by
  have : (35 : UInt8) ∈ dd n := by rw [e]; simp
  exact dd_no this 35 (by decide) rfl
theorem no35_no {l : List UInt8} (h : ∀ x ∈ l, x ≠ 35) (r : Rec) : l ≠ frontT r ++ 35 :: dd (sumT (frontT r)) := fun e => h 35 (by rw [e]; simp) rfl
theorem no10_front (r : Rec) : ∀ x ∈ frontT r, x ≠ 10 := fun _ h => (front_no h).2
theorem no35_front (r : Rec) : ∀ x ∈ frontT r, x ≠ 35 := fun _ h => (front_no h).1
theorem no10_dd (n : Nat) : ∀ x ∈ dd n, x ≠ 10 := fun _ h => dd_no h 10 (by decide)
theorem no10_app {l m : List UInt8} (h1 : ∀ x ∈ l, x ≠ 10) (h2 : ∀ x ∈ m, x ≠ 10) : ∀ x ∈ l ++ m, x ≠ 10 := fun x hx => (List.mem_append.1 hx).elim (h1 x) (h2 x)
theorem no10_cons {c : UInt8} {m : List UInt8} (h1 : c ≠ 10) (h2 : ∀ x ∈ m, x ≠ 10) : ∀ x ∈ c :: m, x ≠ 10 := fun x hx => (List.mem_cons.1 hx).elim (fun e => e ▸ h1) (h2 x)
/-- One byte of a line changed. -/
theorem read_changed {r : Rec} {A B : List UInt8} {c c' : UInt8} (e : lineT r = A ++ c :: B) (hc : c' ≠ c) (hlen : (lineT r).length ≤ 9972) (R : List UInt8) (hR : R = [] ∨ ∃ r2 R2, R = lineT r2 ++ R2) (out : List Rec) (n k : Nat) :
    ∃ er, readGo (k + 1) out n (A ++ c' :: (B ++ R)) = (out, n, er) ∧ (er = 0 ↔ B = [] ∧ R = []) := by
  have el : lineT r = frontT r ++ 35 :: (dd (sumT (frontT r)) ++ [10]) := rfl
  rw [el] at e
  rcases List.append_eq_append_iff.1 e with ⟨X, h1, h2⟩ | ⟨X, h1, h2⟩
  · -- the front ends at or ahead of the place
    cases X with
    | nil =>
      -- the sign itself
      rw [List.append_nil] at h1
      rw [List.nil_append] at h2
      obtain ⟨rfl, rfl⟩ := List.cons.inj h2
      subst h1
      by_cases h10 : c' = 10
      · subst h10
        obtain ⟨er, g1, g2⟩ := read_bad (out := out) (n := n) (k := k) (b := dd (sumT (frontT r)) ++ [10] ++ R) (no10_front r) (no35_no (no35_front r))
        exact ⟨er, g1, fun h => absurd h g2, fun h => absurd h.1 (by simp)⟩
      · obtain ⟨er, g1, g2⟩ := read_bad (out := out) (n := n) (k := k) (a := frontT r ++ c' :: dd (sumT (frontT r))) (b := R) (no10_app (no10_front r) (no10_cons h10 (no10_dd _))) (no35_no (fun x hx => by
          rcases List.mem_append.1 hx with h | h
          · exact no35_front r x h
          · rcases List.mem_cons.1 h with h | h
            · rw [h]; exact hc
            · exact dd_no h 35 (by decide)))
        refine ⟨er, ?_, fun h => absurd h g2, fun h => absurd h.1 (by simp)⟩
        rw [← g1]
        simp
    | cons y X =>
      rw [List.cons_append] at h2
      obtain ⟨rfl, h3⟩ := List.cons.inj h2
      subst h1
      rcases List.append_eq_append_iff.1 h3 with ⟨Y, h4, h5⟩ | ⟨Y, h4, h5⟩
      · -- the line feed
        have hY : Y = [] := by
          cases Y with
          | nil => rfl
          | cons y Y => simp at h5
        subst hY
        rw [List.append_nil] at h4
        simp only [List.nil_append, List.cons.injEq] at h5
        obtain ⟨rfl, rfl⟩ := h5
        subst h4
        rcases hR with rfl | ⟨r2, R2, rfl⟩
        · refine ⟨0, read_torn ?_, fun _ => ⟨rfl, rfl⟩, fun _ => rfl⟩
          rw [List.append_nil, List.append_assoc, List.cons_append]
          exact no10_app (no10_front r) (no10_cons (by decide) (no10_app (no10_dd _) (no10_cons hc (fun x hx => by simp at hx))))
        · obtain ⟨er, g1, g2⟩ := read_bad (out := out) (n := n) (k := k) (a := frontT r ++ 35 :: (dd (sumT (frontT r)) ++ c' :: (frontT r2 ++ 35 :: dd (sumT (frontT r2))))) (b := R2)
            (no10_app (no10_front r) (no10_cons (by decide) (no10_app (no10_dd _) (no10_cons hc (no10_app (no10_front r2) (no10_cons (by decide) (no10_dd _)))))))
            (fun r' h => by
              have h6 := (upto_inj (no35_front r) (no35_front r') h).2
              refine dd_no35 (n := sumT (frontT r')) (l := dd (sumT (frontT r)) ++ c' :: frontT r2) (m := dd (sumT (frontT r2))) ?_
              rw [← h6]; simp)
          refine ⟨er, ?_, fun h => absurd h g2, fun h => absurd h.2 (by simp [lineT])⟩
          rw [← g1]
          simp [lineT]
      · -- a digit of the sum
        cases Y with
        | nil =>
          rw [List.append_nil] at h4
          simp only [List.nil_append] at h5
          obtain ⟨rfl, rfl⟩ := List.cons.inj h5.symm
          subst h4
          rcases hR with rfl | ⟨r2, R2, rfl⟩
          · refine ⟨0, read_torn ?_, fun _ => ⟨rfl, rfl⟩, fun _ => rfl⟩
            rw [List.append_nil, List.append_assoc, List.cons_append]
            exact no10_app (no10_front r) (no10_cons (by decide) (no10_app (no10_dd _) (no10_cons hc (fun x hx => by simp at hx))))
          · obtain ⟨er, g1, g2⟩ := read_bad (out := out) (n := n) (k := k) (a := frontT r ++ 35 :: (dd (sumT (frontT r)) ++ c' :: (frontT r2 ++ 35 :: dd (sumT (frontT r2))))) (b := R2)
              (no10_app (no10_front r) (no10_cons (by decide) (no10_app (no10_dd _) (no10_cons hc (no10_app (no10_front r2) (no10_cons (by decide) (no10_dd _)))))))
              (fun r' h => by
                have h6 := (upto_inj (no35_front r) (no35_front r') h).2
                refine dd_no35 (n := sumT (frontT r')) (l := dd (sumT (frontT r)) ++ c' :: frontT r2) (m := dd (sumT (frontT r2))) ?_
                rw [← h6]; simp)
            refine ⟨er, ?_, fun h => absurd h g2, fun h => absurd h.2 (by simp [lineT])⟩
            rw [← g1]
            simp [lineT]
        | cons y Y =>
          rw [List.cons_append] at h5
          obtain ⟨rfl, rfl⟩ := List.cons.inj h5
          -- the sum is X, c, Y
          have hX : ∀ x ∈ X, x ≠ 10 := fun x hx => no10_dd (sumT (frontT r)) x (by rw [h4]; simp [hx])
          have hY : ∀ x ∈ Y, x ≠ 10 := fun x hx => no10_dd (sumT (frontT r)) x (by rw [h4]; simp [hx])
          by_cases h10 : c' = 10
          · subst h10
            obtain ⟨er, g1, g2⟩ := read_bad (out := out) (n := n) (k := k) (a := frontT r ++ 35 :: X) (b := Y ++ [10] ++ R) (no10_app (no10_front r) (no10_cons (by decide) hX)) (fun r' h => by
              obtain ⟨h6, h7⟩ := upto_inj (no35_front r) (no35_front r') h
              rw [← h6, h4] at h7
              have := congrArg List.length h7
              simp at this)
            refine ⟨er, ?_, fun h => absurd h g2, fun h => absurd h.1 (by simp)⟩
            rw [← g1]
            first | done | simp
          · obtain ⟨er, g1, g2⟩ := read_bad (out := out) (n := n) (k := k) (a := frontT r ++ 35 :: (X ++ c' :: Y)) (b := R) (no10_app (no10_front r) (no10_cons (by decide) (no10_app hX (no10_cons h10 hY)))) (fun r' h => by
              obtain ⟨h6, h7⟩ := upto_inj (no35_front r) (no35_front r') h
              rw [← h6, h4] at h7
              have := List.append_cancel_left h7
              exact hc (List.cons.inj this).1)
            refine ⟨er, ?_, fun h => absurd h g2, fun h => absurd h.1 (by simp)⟩
            rw [← g1]
            simp
  · -- within the front
    cases X with
    | nil =>
      rw [List.append_nil] at h1
      rw [List.nil_append] at h2
      obtain ⟨rfl, rfl⟩ := List.cons.inj h2
      subst h1
      by_cases h10 : c' = 10
      · subst h10
        obtain ⟨er, g1, g2⟩ := read_bad (out := out) (n := n) (k := k) (b := dd (sumT (frontT r)) ++ [10] ++ R) (no10_front r) (no35_no (no35_front r))
        exact ⟨er, g1, fun h => absurd h g2, fun h => absurd h.1 (by simp)⟩
      · obtain ⟨er, g1, g2⟩ := read_bad (out := out) (n := n) (k := k) (a := frontT r ++ c' :: dd (sumT (frontT r))) (b := R) (no10_app (no10_front r) (no10_cons h10 (no10_dd _))) (no35_no (fun x hx => by
          rcases List.mem_append.1 hx with h | h
          · exact no35_front r x h
          · rcases List.mem_cons.1 h with h | h
            · rw [h]; exact hc
            · exact dd_no h 35 (by decide)))
        refine ⟨er, ?_, fun h => absurd h g2, fun h => absurd h.1 (by simp)⟩
        rw [← g1]
        simp
    | cons y X =>
      rw [List.cons_append] at h2
      obtain ⟨rfl, rfl⟩ := List.cons.inj h2
      have hA10 : ∀ x ∈ A, x ≠ 10 := fun x hx => no10_front r x (by rw [h1]; simp [hx])
      have hA35 : ∀ x ∈ A, x ≠ 35 := fun x hx => no35_front r x (by rw [h1]; simp [hx])
      have hX10 : ∀ x ∈ X, x ≠ 10 := fun x hx => no10_front r x (by rw [h1]; simp [hx])
      have hX35 : ∀ x ∈ X, x ≠ 35 := fun x hx => no35_front r x (by rw [h1]; simp [hx])
      by_cases h10 : c' = 10
      · subst h10
        obtain ⟨er, g1, g2⟩ := read_bad (out := out) (n := n) (k := k) (a := A) (b := X ++ 35 :: (dd (sumT (frontT r)) ++ [10]) ++ R) hA10 (no35_no hA35)
        exact ⟨er, g1, fun h => absurd h g2, fun h => absurd h.1 (by simp)⟩
      · obtain ⟨er, g1, g2⟩ := read_bad (out := out) (n := n) (k := k) (a := A ++ c' :: (X ++ 35 :: dd (sumT (frontT r)))) (b := R) (no10_app hA10 (no10_cons h10 (no10_app hX10 (no10_cons (by decide) (no10_dd _))))) (fun r' h => by
          by_cases h35 : c' = 35
          · subst h35
            have h6 := (upto_inj hA35 (no35_front r') h).2
            exact dd_no35 h6.symm
          · have h' : (A ++ c' :: X) ++ 35 :: dd (sumT (frontT r)) = frontT r' ++ 35 :: dd (sumT (frontT r')) := by rw [← h]; simp
            obtain ⟨h6, h7⟩ := upto_inj (fun x hx => by
              rcases List.mem_append.1 hx with h | h
              · exact hA35 x h
              · rcases List.mem_cons.1 h with h | h
                · rw [h]; exact h35
                · exact hX35 x h) (no35_front r') h'
            have h8 : sumT (frontT r) = sumT (frontT r') := by rw [← dd_val (sumT (frontT r)), h7, dd_val]
            rw [← h6, h1] at h8
            have hl : A.length < 9972 := by
              rw [el, h1] at hlen
              simp at hlen
              omega
            exact sumT_other hl (Ne.symm hc) h8)
        refine ⟨er, ?_, fun h => absurd h g2, fun h => absurd h.1 (by simp)⟩
        rw [← g1]
        simp
end Go.Proofs.YtpaoeeamlinaaaaGreatDoor
