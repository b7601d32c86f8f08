/- Plain arithmetic of natural numbers by limbs to the base 2^32, the lowest first: values of lists, the canonical list of a number, its front in a list with zeros at the end. No program in sight.
   Memory words: a block that is just a row of 32-bit limbs; a slice that reads as limbs; both kept where nothing below a block has turned.
   Walks: ratio.trim, from, proper, one, compare.
   Walks: the program's compare.
   Walks: from, proper, one; the reference's trim, From, ValidNat, Compare, SameNat. -/
import Derived.Test.YtebmegodeglobaaProg
import Derived.WalkKit
import Derived.WalkLawsBesides
import Derived.WalkSpells
import Derived.Deep.OwnRows
import Derived.Deep.Draws
import Derived.Lib.Hide
import Derived.Deep.QuietTactic
import Derived.BigQuiet
set_option linter.unusedVariables false
namespace Go.Proofs.Ytebmegodeglobaa

/-- The value of a list of limbs. -/
def val : List Nat → Nat
  | [] => 0
  | x :: l => x + 4294967296 * val l

/-- The limb i; 0 behind the end. -/
def lim (l : List Nat) (i : Nat) : Nat := l[i]?.getD 0
theorem lim_cons_zero (x : Nat) (l : List Nat) : lim (x :: l) 0 = x := rfl
theorem lim_cons_succ (x : Nat) (l : List Nat) (i : Nat) : lim (x :: l) (i + 1) = lim l i := rfl
theorem lim_get {l : List Nat} {i : Nat} (h : i < l.length) : lim l i = l[i] := by unfold lim; rw [List.getElem?_eq_getElem h]; rfl
theorem lim_take {l : List Nat} {k i : Nat} (h : i < k) : lim (l.take k) i = lim l i := by unfold lim; rw [List.getElem?_take, if_pos h]
theorem lim_set_ne {l : List Nat} {k i x : Nat} (h : k ≠ i) : lim (l.set k x) i = lim l i := by unfold lim; rw [List.getElem?_set_ne h]
theorem lim_set_eq {l : List Nat} {k x : Nat} (h : k < l.length) : lim (l.set k x) k = x := by unfold lim; simp [h]
theorem lim_zeros (n i : Nat) : lim (List.replicate n 0) i = 0 := by unfold lim; rw [List.getElem?_replicate]; split <;> rfl

/-- All limbs are below the base. -/
def Lb (l : List Nat) : Prop := ∀ x ∈ l, x < 4294967296

/-- The limbs of a number, without zeros at the end. -/
def limbs (n : Nat) : List Nat := if n = 0 then [] else n % 4294967296 :: limbs (n / 4294967296)
termination_by n
decreasing_by omega

theorem limbs_zero : limbs 0 = [] := by rw [limbs]; simp
theorem limbs_pos {n : Nat} (h : 0 < n) : limbs n = n % 4294967296 :: limbs (n / 4294967296) := by
  rw [limbs, if_neg (by omega)]
theorem limbs_cons {x m : Nat} (hx : x < 4294967296) (h : 0 < x + 4294967296 * m) : limbs (x + 4294967296 * m) = x :: limbs m := by
  rw [limbs_pos h]
  congr 1
  · omega
  · congr 1; omega
theorem val_limbs (n : Nat) : val (limbs n) = n := by
  induction n using Nat.strongRecOn with
  | _ n ih =>
    by_cases h : n = 0
    · subst h; rw [limbs_zero]; rfl
    · rw [limbs_pos (by omega), val, ih _ (by omega)]; omega
theorem limbs_lb (n : Nat) : Lb (limbs n) := by
  induction n using Nat.strongRecOn with
  | _ n ih =>
    by_cases h : n = 0
    · subst h; rw [limbs_zero]; intro x hx; cases hx
    · rw [limbs_pos (by omega)]
      intro x hx
      rcases List.mem_cons.1 hx with rfl | hx
      · exact Nat.mod_lt _ (by omega)
      · exact ih _ (by omega) x hx
theorem limbs_inj {a b : Nat} (h : limbs a = limbs b) : a = b := by rw [← val_limbs a, h, val_limbs]
theorem Lb.tail {x : Nat} {l : List Nat} (h : Lb (x :: l)) : Lb l := fun y hy => h y (List.mem_cons_of_mem _ hy)
theorem Lb.head {x : Nat} {l : List Nat} (h : Lb (x :: l)) : x < 4294967296 := h x List.mem_cons_self
theorem Lb.nil : Lb [] := fun _ h => by cases h
theorem Lb.cons {x : Nat} {l : List Nat} (h : x < 4294967296) (t : Lb l) : Lb (x :: l) := fun y hy => by
  rcases List.mem_cons.1 hy with rfl | hy
  · exact h
  · exact t y hy
theorem Lb.take {l : List Nat} (h : Lb l) (k : Nat) : Lb (l.take k) := fun x hx => h x (List.mem_of_mem_take hx)
theorem Lb.drop {l : List Nat} (h : Lb l) (k : Nat) : Lb (l.drop k) := fun x hx => h x (List.mem_of_mem_drop hx)
theorem Lb.append {l m : List Nat} (h : Lb l) (k : Lb m) : Lb (l ++ m) := fun x hx => by
  rcases List.mem_append.1 hx with hx | hx
  · exact h x hx
  · exact k x hx
theorem Lb.getD {l : List Nat} (h : Lb l) (k : Nat) : (lim l k) < 4294967296 := by
  unfold lim
  rcases Nat.lt_or_ge k l.length with hk | hk
  · rw [List.getElem?_eq_getElem hk]; exact h _ (List.getElem_mem hk)
  · rw [List.getElem?_eq_none hk]; decide
theorem Lb.replicate (k : Nat) {x : Nat} (hx : x < 4294967296) : Lb (List.replicate k x) := fun y hy => by
  rw [(List.mem_replicate.1 hy).2]; exact hx
theorem Lb.set {l : List Nat} (h : Lb l) (k : Nat) {x : Nat} (hx : x < 4294967296) : Lb (l.set k x) := fun y hy => by
  rcases List.mem_or_eq_of_mem_set hy with hy | rfl
  · exact h y hy
  · exact hx

theorem pow_pos_ (n : Nat) : 0 < 4294967296 ^ n := Nat.pow_pos (by omega)
theorem val_lt {l : List Nat} (h : Lb l) : val l < 4294967296 ^ l.length := by
  induction l with
  | nil => simp [val]
  | cons x l ih =>
    have h1 := ih h.tail
    have h2 := h.head
    rw [val, List.length_cons, Nat.pow_succ]
    omega
theorem val_append (l m : List Nat) : val (l ++ m) = val l + 4294967296 ^ l.length * val m := by
  induction l with
  | nil => simp [val]
  | cons x l ih => rw [List.cons_append, val, ih, val, List.length_cons, Nat.pow_succ]; grind
theorem val_zeros (k : Nat) : val (List.replicate k 0) = 0 := by
  induction k with
  | zero => rfl
  | succ k ih => rw [List.replicate_succ, val, ih]
theorem val_split (l : List Nat) (k : Nat) (hk : k ≤ l.length) : val l = val (l.take k) + 4294967296 ^ k * val (l.drop k) := by
  have := val_append (l.take k) (l.drop k)
  rw [List.take_append_drop, List.length_take, Nat.min_eq_left hk] at this
  exact this
theorem val_set {l : List Nat} {k : Nat} (x : Nat) (hk : k < l.length) : val (l.set k x) + (lim l k) * 4294967296 ^ k = val l + x * 4294967296 ^ k := by
  induction l generalizing k with
  | nil => simp at hk
  | cons y l ih =>
    cases k with
    | zero => simp [val, lim]; omega
    | succ k =>
      have h := ih (k := k) (by simpa using hk)
      rw [List.set_cons_succ, val, val, lim_cons_succ, Nat.pow_succ]
      grind
theorem val_take_succ {l : List Nat} {k : Nat} (hk : k < l.length) : val (l.take (k + 1)) = val (l.take k) + (lim l k) * 4294967296 ^ k := by
  have h1 : l.take (k + 1) = l.take k ++ [l[k]] := by rw [List.take_succ_eq_append_getElem hk]
  rw [h1, val_append, List.length_take, Nat.min_eq_left (by omega), val, val, lim_get hk]
  simp [Nat.mul_comm]
theorem val_drop {l : List Nat} {k : Nat} (hk : k < l.length) : val (l.drop k) = (lim l k) + 4294967296 * val (l.drop (k + 1)) := by
  rw [List.drop_eq_getElem_cons hk, val, lim_get hk]
theorem val_take_ge {l : List Nat} {k : Nat} (hk : l.length ≤ k) : val (l.take k) = val l := by rw [List.take_of_length_le hk]
theorem getD_ge {l : List Nat} {k : Nat} (hk : l.length ≤ k) : (lim l k) = 0 := by
  unfold lim; rw [List.getElem?_eq_none hk]; rfl
/-- One limb more of the front, also beyond the end. -/
theorem val_take_step (l : List Nat) (k : Nat) : val (l.take (k + 1)) = val (l.take k) + (lim l k) * 4294967296 ^ k := by
  rcases Nat.lt_or_ge k l.length with h | h
  · exact val_take_succ h
  · rw [val_take_ge (by omega), val_take_ge h, getD_ge h]; omega

/-- A list of limbs is the number's own, and zeros behind it. -/
theorem limbs_front {l : List Nat} (h : Lb l) : ∃ k, l = limbs (val l) ++ List.replicate k 0 := by
  induction l with
  | nil => exact ⟨0, by simp [val, limbs_zero]⟩
  | cons x l ih =>
    obtain ⟨k, hk⟩ := ih h.tail
    by_cases hz : x + 4294967296 * val l = 0
    · refine ⟨k + 1, ?_⟩
      have hl : val l = 0 := by omega
      have hx : x = 0 := by omega
      rw [val, hz, limbs_zero, hk, hl, limbs_zero, hx, List.replicate_succ]; simp
    · refine ⟨k, ?_⟩
      rw [val, limbs_cons h.head (by omega), List.cons_append, ← hk]
theorem limbs_len_le {l : List Nat} (h : Lb l) : (limbs (val l)).length ≤ l.length := by
  obtain ⟨k, hk⟩ := limbs_front h
  have := congrArg List.length hk
  simp at this; omega
theorem take_limbs {l : List Nat} (h : Lb l) : l.take (limbs (val l)).length = limbs (val l) := by
  obtain ⟨k, hk⟩ := limbs_front h
  generalize limbs (val l) = m at *
  subst hk; simp
theorem limbs_rest {l : List Nat} (h : Lb l) {i : Nat} (hi : (limbs (val l)).length ≤ i) : (lim l i) = 0 := by
  obtain ⟨k, hk⟩ := limbs_front h
  rw [hk]
  unfold lim
  rw [List.getElem?_append_right (by omega), List.getElem?_replicate]
  split <;> rfl
theorem limbs_last {n : Nat} (h : 0 < n) : (lim (limbs n) ((limbs n).length - 1)) ≠ 0 := by
  induction n using Nat.strongRecOn with
  | _ n ih =>
    rw [limbs_pos h]
    by_cases hq : n / 4294967296 = 0
    · rw [hq, limbs_zero]; simp [lim]; omega
    · have h1 := ih (n / 4294967296) (by omega) (by omega)
      have h2 : 0 < (limbs (n / 4294967296)).length := by rw [limbs_pos (by omega)]; simp
      rw [List.length_cons, show (limbs (n / 4294967296)).length + 1 - 1 = ((limbs (n / 4294967296)).length - 1) + 1 from by omega, lim_cons_succ]
      exact h1
theorem limbs_len_pos {n : Nat} (h : 0 < n) : 0 < (limbs n).length := by rw [limbs_pos h]; simp
theorem limbs_len_zero {n : Nat} : (limbs n).length = 0 ↔ n = 0 := by
  constructor
  · intro h
    rcases Nat.eq_zero_or_pos n with h0 | h0
    · exact h0
    · have := limbs_len_pos h0; omega
  · intro h; subst h; rw [limbs_zero]; rfl
theorem limbs_nil {n : Nat} : limbs n = [] ↔ n = 0 := by rw [← limbs_len_zero, List.length_eq_zero_iff]
theorem lt_limbs (n : Nat) : n < 4294967296 ^ (limbs n).length := by
  have := val_lt (limbs_lb n); rwa [val_limbs] at this
theorem limbs_le {n : Nat} (h : 0 < n) : 4294967296 ^ ((limbs n).length - 1) ≤ n := by
  have h0 := limbs_len_pos h
  have h1 := val_take_succ (l := limbs n) (k := (limbs n).length - 1) (by omega)
  rw [show (limbs n).length - 1 + 1 = (limbs n).length from by omega, List.take_length, val_limbs] at h1
  have h2 := limbs_last h
  have h3 : 4294967296 ^ ((limbs n).length - 1) ≤ (lim (limbs n) ((limbs n).length - 1)) * 4294967296 ^ ((limbs n).length - 1) :=
    Nat.le_mul_of_pos_left _ (by omega)
  omega
theorem limbs_len_mono {a b : Nat} (h : a ≤ b) : (limbs a).length ≤ (limbs b).length := by
  rcases Nat.eq_zero_or_pos a with h0 | h0
  · subst h0; rw [limbs_zero]; simp
  · have h1 := limbs_le h0
    have h2 := lt_limbs b
    have h3 : 4294967296 ^ ((limbs a).length - 1) < 4294967296 ^ (limbs b).length := by omega
    have h4 := (Nat.pow_lt_pow_iff_right (by omega)).1 h3
    omega
theorem limbs_len_lt {n k : Nat} (h : n < 4294967296 ^ k) : (limbs n).length ≤ k := by
  rcases Nat.eq_zero_or_pos n with h0 | h0
  · subst h0; rw [limbs_zero]; simp
  · have h1 := limbs_le h0
    have h4 := (Nat.pow_lt_pow_iff_right (a := 4294967296) (n := (limbs n).length - 1) (m := k) (by omega)).1 (by omega)
    have := limbs_len_pos h0
    omega
theorem limbs_len_ge {n k : Nat} (h : 4294967296 ^ k ≤ n) : k < (limbs n).length := by
  have h2 := lt_limbs n
  exact (Nat.pow_lt_pow_iff_right (by omega)).1 (Nat.lt_of_le_of_lt h h2)
theorem limbs_one : limbs 1 = [1] := by rw [limbs_pos (by omega)]; simp [limbs_zero]
theorem limbs_small {n : Nat} (h0 : 0 < n) (h : n < 4294967296) : limbs n = [n] := by
  rw [limbs_pos h0, show n / 4294967296 = 0 from by omega, limbs_zero, Nat.mod_eq_of_lt h]

/-- A list that is its number's own. -/
def Canon (l : List Nat) : Prop := l = limbs (val l)
theorem canon_limbs (n : Nat) : Canon (limbs n) := by unfold Canon; rw [val_limbs]
theorem Canon.lb {l : List Nat} (h : Canon l) : Lb l := by unfold Canon at h; rw [h]; exact limbs_lb _
theorem canon_of_len {l : List Nat} (h : Lb l) (hl : (limbs (val l)).length = l.length) : Canon l := by
  have := take_limbs h
  rw [hl, List.take_length] at this
  exact this

/-- How long the front without zeros is, looked for from the end. -/
def tlen (c : Nat → Nat) : Nat → Nat
  | 0 => 0
  | n + 1 => if c n = 0 then tlen c n else n + 1
theorem tlen_le (c : Nat → Nat) (n : Nat) : tlen c n ≤ n := by
  induction n with
  | zero => exact Nat.le_refl _
  | succ n ih => unfold tlen; split <;> omega
theorem tlen_skip {c : Nat → Nat} {k : Nat} (h0 : 0 < k) (h : c (k - 1) = 0) : tlen c k = tlen c (k - 1) := by
  obtain ⟨m, rfl⟩ : ∃ m, k = m + 1 := ⟨k - 1, by omega⟩
  rw [tlen, if_pos (by simpa using h)]; rfl
theorem tlen_stop {c : Nat → Nat} {k : Nat} (h : c (k - 1) ≠ 0 ∨ k = 0) : tlen c k = k := by
  rcases Nat.eq_zero_or_pos k with h0 | h0
  · subst h0; rfl
  · obtain ⟨m, rfl⟩ : ∃ m, k = m + 1 := ⟨k - 1, by omega⟩
    rw [tlen, if_neg (by rcases h with h | h; · simpa using h
                         · omega)]
theorem tlen_val {l : List Nat} (h : Lb l) : tlen (fun i => (lim l i)) l.length = (limbs (val l)).length := by
  have hle := limbs_len_le h
  have key : ∀ d, (limbs (val l)).length + d ≤ l.length → tlen (fun i => (lim l i)) ((limbs (val l)).length + d) = (limbs (val l)).length := by
    intro d
    induction d with
    | zero =>
      intro _
      rw [Nat.add_zero]
      apply tlen_stop
      rcases Nat.eq_zero_or_pos (val l) with h0 | h0
      · right; rw [h0, limbs_zero]; rfl
      · left
        have h1 := limbs_last h0
        have h2 := take_limbs h
        have h3 := limbs_len_pos h0
        rw [← h2, List.length_take, Nat.min_eq_left hle, lim_take (by omega)] at h1
        exact h1
    | succ d ih =>
      intro hd
      rw [← Nat.add_assoc, tlen_skip (by omega) (by simpa using limbs_rest h (i := (limbs (val l)).length + d) (by omega))]
      exact ih (by omega)
  have := key (l.length - (limbs (val l)).length) (by omega)
  rwa [show (limbs (val l)).length + (l.length - (limbs (val l)).length) = l.length from by omega] at this

/-- What 'compare' gives for two lists. -/
def CmpR (a b : List Nat) (r : Int) : Prop :=
  (a.length ≠ b.length → r = (a.length : Int) - b.length) ∧
  (a.length = b.length → (val a < val b ∧ r = -1) ∨ (a = b ∧ r = 0) ∨ (val b < val a ∧ r = 1))
theorem CmpR.lt {m n : Nat} {r : Int} (h : CmpR (limbs m) (limbs n) r) : r < 0 ↔ m < n := by
  have hm := val_limbs m
  have hn := val_limbs n
  by_cases hl : (limbs m).length = (limbs n).length
  · rcases h.2 hl with ⟨h1, rfl⟩ | ⟨h1, rfl⟩ | ⟨h1, rfl⟩
    · omega
    · have := limbs_inj h1; omega
    · omega
  · have h1 := h.1 hl
    by_cases hlt : m < n
    · have := limbs_len_mono (Nat.le_of_lt hlt); omega
    · have := limbs_len_mono (Nat.le_of_not_lt hlt); omega
theorem CmpR.gt {m n : Nat} {r : Int} (h : CmpR (limbs m) (limbs n) r) : 0 < r ↔ n < m := by
  have hm := val_limbs m
  have hn := val_limbs n
  by_cases hl : (limbs m).length = (limbs n).length
  · rcases h.2 hl with ⟨h1, rfl⟩ | ⟨h1, rfl⟩ | ⟨h1, rfl⟩
    · omega
    · have := limbs_inj h1; omega
    · omega
  · have h1 := h.1 hl
    by_cases hlt : n < m
    · have := limbs_len_mono (Nat.le_of_lt hlt); omega
    · have := limbs_len_mono (Nat.le_of_not_lt hlt); omega
theorem CmpR.eq {m n : Nat} {r : Int} (h : CmpR (limbs m) (limbs n) r) : r = 0 ↔ m = n := by
  have := h.lt; have := h.gt; omega
theorem cmp_of_top {a b : List Nat} (ha : Lb a) (hl : a.length = b.length) {k : Nat} (hk : k < a.length)
    (htop : a.drop (k + 1) = b.drop (k + 1)) (hlt : (lim a k) < (lim b k)) : val a < val b := by
  have h1 := val_split a k (by omega)
  have h2 := val_split b k (by omega)
  have h3 := val_drop hk
  have h4 := val_drop (l := b) (k := k) (by omega)
  have h5 := val_lt (ha.take k)
  rw [List.length_take, Nat.min_eq_left (by omega)] at h5
  rw [htop] at h3
  have h6 : val (a.drop k) + 1 ≤ val (b.drop k) := by omega
  have h7 := Nat.mul_le_mul_left (4294967296 ^ k) h6
  rw [Nat.mul_add] at h7
  omega
end Go.Proofs.Ytebmegodeglobaa

namespace Go.Proofs.Ytebmegodeglobaa
open Go.RowKit

theorem ret_bool {a b : Bool} (h : a = b) : Ending.returned (.bool a) = .returned (.bool b) := by rw [h]
theorem ret_int {k : IntKind} {a b : Int} (h : a = b) : Ending.returned (.int k a) = .returned (.int k b) := by rw [h]

/-- The result is a bool that says whether p; the world is as it was, but for draws. -/
def RetB (w : World) (p : Prop) (e : Ending) (w' : World) : Prop := ∃ r : Bool, e = .returned (.bool r) ∧ (r = true ↔ p) ∧ ∃ n, w' = w.drewN n
/-- The result is a bool that says whether p; nothing that was there has turned. -/
def RetC (w : World) (p : Prop) (e : Ending) (w' : World) : Prop := ∃ r : Bool, e = .returned (.bool r) ∧ (r = true ↔ p) ∧ Below w.heap.size w w'
/-- The result is an int of which p holds; the world is as it was, but for draws. -/
def RetI (w : World) (p : Int → Prop) (e : Ending) (w' : World) : Prop := ∃ r : Int, e = .returned (.int .i64 r) ∧ p r ∧ ∃ n, w' = w.drewN n
theorem below_drewN (w : World) (n B : Nat) : Below B w (w.drewN n) := ⟨rfl, rfl, rfl, Nat.le_refl _, fun _ _ => rfl⟩

/-- A cell that was there is still there after calls that leave what was there. -/
theorem keep_cell {W w1 : World} (hb : Below W.heap.size W w1) {b o : Nat} {v : Value} (h : W.cell? ⟨b, o, none⟩ = some v) : w1.cell? ⟨b, o, none⟩ = some v :=
  (hb.cell (p := ⟨b, o, none⟩) (World.block_lt_of_cell? W _ h)).trans h
/-- A block of cells that was there is still there. -/
def Box (w : World) (b : Nat) (cs : Array Value) (t : TypeId) : Prop := w.heap[b]? = some (.cells cs t (0, 0))
theorem Box.new (w : World) (cs : Array Value) (t : TypeId) : Box (w.alloc (.cells cs t)) w.heap.size cs t := heap_alloc_new w _
theorem Box.lt {w : World} {b : Nat} {cs : Array Value} {t : TypeId} (h : Box w b cs t) : b < w.heap.size := (Array.getElem?_eq_some_iff.1 h).1
theorem Box.after {w w' : World} {b : Nat} {cs : Array Value} {t : TypeId} (h : Box w b cs t) (hb : Below w.heap.size w w') : Box w' b cs t := (hb.block b h.lt).trans h
theorem Box.alloc {w : World} {b : Nat} {cs : Array Value} {t : TypeId} (h : Box w b cs t) (o : Obj) : Box (w.alloc o) b cs t := (Below.heap_alloc w o b h.lt).trans h
theorem Box.cell {w : World} {b : Nat} {cs : Array Value} {t : TypeId} (h : Box w b cs t) (i : Nat) : w.cell? ⟨b, i, none⟩ = cs[i]? := cell_of_row w b i cs t (0, 0) h
theorem Box.frozen {w : World} {b : Nat} {cs : Array Value} {t : TypeId} (h : Box w b cs t) (i : Nat) : w.frozen? ⟨b, i, none⟩ = false := by
  unfold Box at h; simp [World.frozen?, h]

/-- A limb as a value. -/
def u32 (x : Nat) : Value := .int .u32 (x : Int)
/-- The cells of limbs. -/
def cells32 (l : List Nat) : Array Value := (l.map u32).toArray
/-- Block b is just the limbs l. -/
def Row32 (w : World) (b : Nat) (l : List Nat) : Prop := w.heap[b]? = some (.cells (cells32 l) 95 (0, 0))

theorem cells32_get {l : List Nat} {i : Nat} (h : i < l.length) : (cells32 l)[i]? = some (.int .u32 ((lim l i : Nat) : Int)) := by
  rw [lim_get h]; simp [cells32, u32, List.getElem?_eq_getElem h]

section
variable {w w' : World} {b : Nat} {l : List Nat}
theorem Row32.lt (h : Row32 w b l) : b < w.heap.size := by
  rcases Nat.lt_or_ge b w.heap.size with hlt | hge
  · exact hlt
  · unfold Row32 at h; rw [Array.getElem?_eq_none hge] at h; cases h
theorem Row32.cell (h : Row32 w b l) {i : Nat} (hi : i < l.length) : w.cell? ⟨b, i, none⟩ = some (.int .u32 ((lim l i : Nat) : Int)) := by
  rw [cell_of_row w b i _ _ (0, 0) h, cells32_get hi]
theorem Row32.frozen (h : Row32 w b l) (i : Nat) : w.frozen? ⟨b, i, none⟩ = false := by
  unfold Row32 at h
  simp [World.frozen?, h]
theorem Row32.set (h : Row32 w b l) (i x : Nat) : Row32 (w.setCell ⟨b, i, none⟩ (.int .u32 (x : Int))) b (l.set i x) := by
  unfold Row32 at h ⊢
  have e : cells32 (l.set i x) = (cells32 l).setIfInBounds i (.int .u32 (x : Int)) := by
    simp [cells32, List.map_set, u32]
  simp [World.setCell, Array.getElem?_modify, h, e]
theorem Row32.set' (h : Row32 w b l) (i x : Nat) {z : Int} (hz : z = x) : Row32 (w.setCell ⟨b, i, none⟩ (.int .u32 z)) b (l.set i x) := by
  subst hz; exact h.set i x
theorem Row32.below {B : Nat} (h : Row32 w b l) (hb : Below B w w') (hg : b < B) : Row32 w' b l := (hb.block b hg).trans h
theorem Row32.alloc (h : Row32 w b l) (o : Obj) : Row32 (w.alloc o) b l := (Below.heap_alloc w o b h.lt).trans h
theorem Row32.far (h : Row32 w b l) {p : Addr} (hp : b ≠ p.block) (u : Value) : Row32 (w.setCell p u) b l := (Below.heap_setCell w p u b hp).trans h
theorem Row32.drew_ (h : Row32 w b l) : Row32 w.drew b l := h
theorem Row32.drewN (h : Row32 w b l) (n : Nat) : Row32 (w.drewN n) b l := h
end

/-- n new limbs, all 0. -/
def mk32 (n : Nat) : Array Value := madeCells #[.int .u32 0] n
theorem mk32_eq (n : Nat) : mk32 n = cells32 (List.replicate n 0) := by
  apply Array.ext'
  rw [mk32, madeCells, cells32]
  simp only [Array.toList_map, Array.toList_range]
  apply List.ext_getElem
  · simp
  · intro i h1 h2
    simp [u32, Nat.mod_one]
theorem Row32.made (w : World) (n : Nat) : Row32 (w.alloc (.cells (mk32 n) 95)) w.heap.size (List.replicate n 0) := by
  rw [mk32_eq]; exact heap_alloc_new w _
theorem run_make32 (n : Nat) (hn : n ≤ 70368744177664) : ∀ w : World, (Instr.makeSlice 24 (.int .i64 (n : Int)) (.int .i64 (n : Int))).run Try.prog w =
    .ok (.slice (some ⟨w.heap.size, 0, none⟩) n n) (w.alloc (.cells (mk32 n) 95)) :=
  run_make_row' (P := Try.prog) 24 95 (.int .u32 0) 4 Try.underlying24 (by kernel_rfl) rfl .i64 .i64 n (by omega) (by omega)

theorem Row32.lit1 (w : World) (x : Nat) (a : Int) (ha : a = x) : Row32 (w.alloc (.cells #[.int .u32 a] 95)) w.heap.size [x] := by
  subst ha; exact heap_alloc_new w _
theorem Row32.lit2 (w : World) (x y : Nat) (a b : Int) (ha : a = x) (hb : b = y) : Row32 (w.alloc (.cells #[.int .u32 a, .int .u32 b] 95)) w.heap.size [x, y] := by
  subst ha; subst hb; exact heap_alloc_new w _

/-- Block b is a row of limbs. -/
def Tag32 (w : World) (b : Nat) : Prop := ∃ cs fz, w.heap[b]? = some (.cells cs 95 fz)
theorem Tag32.after {B : Nat} {w w' : World} {b : Nat} (h : Tag32 w b) (hb : Below B w w') (hB : w.heap.size ≤ B) : Tag32 w' b := by
  obtain ⟨cs, fz, h⟩ := h
  exact ⟨cs, fz, (hb.block b (Nat.lt_of_lt_of_le (Array.getElem?_eq_some_iff.1 h).1 hB)).trans h⟩
/-- The slice value v reads as the limbs l. -/
def Sl (w : World) (v : Value) (l : List Nat) : Prop :=
  Lb l ∧ ∃ (a : Option Addr) (cap : Nat), v = .slice a l.length cap ∧ l.length ≤ cap ∧ cap ≤ 9223372036854775807 ∧ ((a = none → cap = 0) ∧ (0 < l.length → ∀ b off, a = some ⟨b, off, none⟩ → Tag32 w b)) ∧
    (0 < l.length → ∃ b off, a = some ⟨b, off, none⟩ ∧ b < w.heap.size ∧ ∀ i, i < l.length → w.cell? ⟨b, off + i, none⟩ = some (.int .u32 ((lim l i : Nat) : Int)))

section
variable {w w' : World} {v : Value} {l : List Nat}
theorem Sl.lb (h : Sl w v l) : Lb l := h.1
theorem Sl.below {B : Nat} (h : Sl w v l) (hb : Below B w w') (hB : w.heap.size ≤ B) : Sl w' v l := by
  obtain ⟨h0, a, cap, h1, h2, h3, h5, h6⟩ := h
  refine ⟨h0, a, cap, h1, h2, h3, ⟨h5.1, fun hl b off ha => (h5.2 hl b off ha).after hb hB⟩, fun hl => ?_⟩
  obtain ⟨b, off, ha, hlt, hc⟩ := h6 hl
  exact ⟨b, off, ha, Nat.lt_of_lt_of_le hlt hb.size, fun i hi => (hb.cell (p := ⟨b, off + i, none⟩) (Nat.lt_of_lt_of_le hlt hB)).trans (hc i hi)⟩
theorem Sl.after (h : Sl w v l) (hb : Below w.heap.size w w') : Sl w' v l := h.below hb (Nat.le_refl _)
theorem Sl.alloc (h : Sl w v l) (o : Obj) : Sl (w.alloc o) v l := h.after ((Below.refl _ w).alloc (Nat.le_refl _) o)
theorem Sl.drewN (h : Sl w v l) (n : Nat) : Sl (w.drewN n) v l := h
theorem Sl.nil (w : World) : Sl w (.slice none 0 0) [] := ⟨Lb.nil, none, 0, rfl, by simp, by omega, ⟨fun _ => rfl, fun h => by simp at h⟩, fun h => by simp at h⟩
/-- The front of a row of the call's own. -/
theorem Sl.of_row {b cap : Nat} (h : Row32 w b l) (hl : Lb l) (hc : l.length ≤ cap) (h1 : cap ≤ 9223372036854775807) : Sl w (.slice (some ⟨b, 0, none⟩) l.length cap) l :=
  ⟨hl, _, _, rfl, hc, h1, ⟨(fun h => by cases h), fun _ b' off e => by injection e with e; injection e with e1; subst e1; exact ⟨_, _, h⟩⟩, fun _ => ⟨b, 0, rfl, h.lt, fun i hi => by rw [Nat.zero_add]; exact h.cell hi⟩⟩
/-- A front of what a slice reads. -/
theorem Sl.front {a : Option Addr} {n cap : Nat} (h : Sl w (.slice a n cap) l) (k : Nat) (hk : k ≤ n) : Sl w (.slice a k cap) (l.take k) := by
  obtain ⟨h0, a', cap', h1, h2, h3, h5, h6⟩ := h
  obtain ⟨rfl, rfl, rfl⟩ : a = a' ∧ n = l.length ∧ cap = cap' := by simpa using h1
  have hl : (l.take k).length = k := by rw [List.length_take]; omega
  refine ⟨h0.take k, a, cap, by rw [hl], by omega, h3, ⟨h5.1, fun hp => h5.2 (by omega)⟩, fun hp => ?_⟩
  rw [hl] at hp ⊢
  obtain ⟨b, off, ha, hlt, hc⟩ := h6 (by omega)
  refine ⟨b, off, ha, hlt, fun i hi => ?_⟩
  rw [hc i (by omega), lim_take hi]
/-- A row that append has made reads as limbs. -/
theorem Sl.of_own {base n : Nat} (h : w.ownsRow base 95 1 v n (l.map u32)) (hl : Lb l) : Sl w v l := by
  obtain ⟨h1, h2⟩ := h
  have hn : n = l.length := by simpa using h1.symm
  subst hn
  rcases h2 with ⟨rfl, h0⟩ | ⟨g, cap, cur, rfl, _, hg, h3, h4, h5, h6⟩
  · have : l = [] := List.length_eq_zero_iff.1 h0
    subst this
    exact Sl.nil w
  · refine ⟨hl, some ⟨g, 0, none⟩, cap, rfl, h3, by simpa [maxLen] using h4, ⟨(fun h => by cases h), fun _ b' off e => by injection e with e; injection e with e1; subst e1; exact ⟨_, _, hg⟩⟩, fun _ => ⟨g, 0, rfl, (Array.getElem?_eq_some_iff.1 hg).1, fun i hi => ?_⟩⟩
    rw [Nat.zero_add, cell_of_row w g i cur _ (0, 0) hg, ← Array.getElem?_toList]
    have h7 : (cur.toList.take (l.length * 1))[i]? = (l.map u32)[i]? := by rw [h6]
    rw [List.getElem?_take, if_pos (by omega)] at h7
    rw [h7, List.getElem?_map, List.getElem?_eq_getElem hi, lim_get hi]
    rfl
/-- The cells that a slice reads, as append asks for them. -/
theorem Sl.news {ad : Addr} {n cap : Nat} (h : Sl w (.slice (some ad) n cap) l) : ∀ j u, (l.map u32)[j]? = some u → w.cell? (ad.add j) = some u := by
  obtain ⟨h0, a', cap', h1, h2, h3, h5, h6⟩ := h
  intro j u hu
  rw [List.getElem?_map] at hu
  have hj : j < l.length := by
    rcases Nat.lt_or_ge j l.length with hj | hj
    · exact hj
    · rw [List.getElem?_eq_none hj] at hu; cases hu
  obtain ⟨b, off, ha, hlt, hc⟩ := h6 (by omega)
  obtain ⟨rfl, _, _⟩ : some ad = a' ∧ n = l.length ∧ cap = cap' := by simpa using h1
  obtain rfl : ad = ⟨b, off, none⟩ := by simpa using ha
  rw [List.getElem?_eq_getElem hj] at hu
  have hadd : (⟨b, off, none⟩ : Addr).add j = ⟨b, off + j, none⟩ := by unfold Addr.add; split <;> simp_all
  rw [hadd, hc j hj, ← hu, lim_get hj]
  rfl
theorem one_u32 {u : Value} (h : u ∈ l.map u32) : u.oneCell' = true := by
  obtain ⟨x, _, rfl⟩ := List.mem_map.1 h; rfl
end
theorem info32 : (Try.prog.info? 95).map (fun i => (i.zero, i.size, i.bytes)) = some (some (.int .u32 0), 1, 4) := by kernel_rfl
end Go.Proofs.Ytebmegodeglobaa

namespace Go.Proofs.Ytebmegodeglobaa
open Go.RowKit

/-- The result is a slice that reads as the limbs of n, and nothing that was there has turned. -/
def RetNat (w : World) (n : Nat) (e : Ending) (w' : World) : Prop := ∃ v, e = .returned v ∧ Sl w' v (limbs n) ∧ Below w.heap.size w w'

set_option maxHeartbeats 400000 in
theorem trim_some (b off n cap : Nat) (l : List Nat) (w : World) (hn : n ≤ cap) (hcap : cap ≤ 9223372036854775807)
    (hc : ∀ i, i < n → w.cell? ⟨b, off + i, none⟩ = some (.int .u32 ((lim l i : Nat) : Int))) :
    Calls Try.prog 54 #[.slice (some ⟨b, off, none⟩) n cap] w fun e w' => e = .returned (.slice (some ⟨b, off, none⟩) (tlen (fun i => lim l i) n) cap) ∧ w = w' := by
  go_enter Try.func54, Try.ntmps54
  go_wp2
  go_loop [3] (fun t => ∃ k : Nat, k ≤ n ∧ t = .int .i64 k ∧ Hid (tlen (fun i => lim l i) n = tlen (fun i => lim l i) k)) (fun t => (intOf t).toNat)
  case atStart => exact ⟨n, Nat.le_refl _, rfl, rfl⟩
  case round =>
    obtain ⟨k, hk, rfl, hrel⟩ := hrel
    have hck : 0 < k → w.cell? ⟨b, off + (k - 1), none⟩ = some (.int .u32 ((lim l (k - 1) : Nat) : Int)) := fun _ => hc (k - 1) (by omega)
    clear hc
    go_wp2
    · go_round
      case rel => exact ⟨k - 1, by omega, by go_num, hrel.out.trans (tlen_skip (by omega) (by simp_all))⟩
      case measure => simp [intOf]; omega
    · go_ret
      exact ⟨by rw [hrel.out, tlen_stop (.inl (by simp_all))]; rfl, rfl⟩
    · go_ret
      exact ⟨by rw [hrel.out, tlen_stop (.inr (by omega))]; rfl, rfl⟩

theorem trim_c (w : World) (v : Value) (l : List Nat) (h : Sl w v l) :
    Calls Try.prog 54 #[v] w fun e w' => (∃ a cap, v = .slice a l.length cap ∧ e = .returned (.slice a (limbs (val l)).length cap) ∧ Sl w (.slice a (limbs (val l)).length cap) (limbs (val l))) ∧ w = w' := by
  obtain ⟨h0, a, cap, rfl, h2, h3, h5, h6⟩ := h
  have hs : Sl w (.slice a l.length cap) l := ⟨h0, a, cap, rfl, h2, h3, h5, h6⟩
  have hf := hs.front (limbs (val l)).length (limbs_len_le h0)
  rw [take_limbs h0] at hf
  rcases Nat.eq_zero_or_pos l.length with hl | hl
  · have hl' : l = [] := List.length_eq_zero_iff.1 hl
    subst hl'
    have e0 : (limbs (val [])).length = 0 := by simp [val, limbs_zero]
    refine Calls.mono (R := fun e w' => e = .returned (.slice a 0 cap) ∧ w = w') ?_ (fun e w' h => ⟨⟨a, cap, rfl, by rw [e0]; exact h.1, hf⟩, h.2⟩)
    clear hf hs h6 h0 e0
    rcases a with _ | a
    · have hz := h5.1 rfl
      subst hz
      clear h5
      go_enter Try.func54, Try.ntmps54
      go_wp2
      refine wp_loop_once ?_
      go_wp2
      go_ret
      exact ⟨rfl, rfl⟩
    · go_enter Try.func54, Try.ntmps54
      go_wp2
      refine wp_loop_once ?_
      go_wp2
      go_ret
      exact ⟨rfl, rfl⟩
  · obtain ⟨b, off, rfl, hlt, hc⟩ := h6 hl
    refine (trim_some b off l.length cap l w h2 h3 hc).mono ?_
    rintro e w' ⟨rfl, rfl⟩
    have := tlen_val h0
    exact ⟨⟨_, cap, rfl, by rw [this], hf⟩, rfl⟩
end Go.Proofs.Ytebmegodeglobaa

namespace Go.Proofs.Ytebmegodeglobaa
open Go.RowKit

set_option maxHeartbeats 400000 in
theorem compare_far (a b : Option Addr) (n m c d : Nat) (w : World) (hn : n ≤ 9223372036854775807) (hm : m ≤ 9223372036854775807) (hne : n ≠ m) :
    Calls Try.prog 60 #[.slice a n c, .slice b m d] w fun e w' => e = .returned (.int .i64 ((n : Int) - m)) ∧ w = w' := by
  go_enter Try.func60, Try.ntmps60
  go_wp2
  go_ret
  exact ⟨rfl, rfl⟩

set_option maxHeartbeats 400000 in
theorem compare_none (a b : Option Addr) (c d : Nat) (w : World) :
    Calls Try.prog 60 #[.slice a 0 c, .slice b 0 d] w fun e w' => e = .returned (.int .i64 0) ∧ w = w' := by
  go_enter Try.func60, Try.ntmps60
  go_wp2
  refine wp_loop_once ?_
  go_wp2
  go_ret
  exact ⟨rfl, rfl⟩

/-- What the loop gives: from the top, the first limbs that differ decide. -/
def cmpTop (l m : List Nat) : Nat → Int
  | 0 => 0
  | k + 1 => if lim l k < lim m k then -1 else if lim m k < lim l k then 1 else cmpTop l m k

theorem cmpTop_lt {l m : List Nat} {n k : Nat} (hk : k < n) (h : lim l (n - 1 - k) < lim m (n - 1 - k)) : cmpTop l m (n - k) = -1 := by
  rw [show n - k = (n - 1 - k) + 1 from by omega, cmpTop, if_pos h]
theorem cmpTop_gt {l m : List Nat} {n k : Nat} (hk : k < n) (h : lim m (n - 1 - k) < lim l (n - 1 - k)) : cmpTop l m (n - k) = 1 := by
  rw [show n - k = (n - 1 - k) + 1 from by omega, cmpTop, if_neg (by omega), if_pos h]
theorem cmpTop_eq {l m : List Nat} {n k : Nat} (hk : k < n) (h : lim l (n - 1 - k) = lim m (n - 1 - k)) : cmpTop l m (n - k) = cmpTop l m (n - (k + 1)) := by
  rw [show n - k = (n - 1 - k) + 1 from by omega, cmpTop, if_neg (by omega), if_neg (by omega), show n - (k + 1) = n - 1 - k from by omega]

set_option maxHeartbeats 400000 in
theorem compare_same (b off b' off' n c d : Nat) (l m : List Nat) (w : World) (hn : n ≤ 9223372036854775807) (hpos : 0 < n)
    (hc : ∀ i, i < n → w.cell? ⟨b, off + i, none⟩ = some (.int .u32 ((lim l i : Nat) : Int)))
    (hd : ∀ i, i < n → w.cell? ⟨b', off' + i, none⟩ = some (.int .u32 ((lim m i : Nat) : Int))) :
    Calls Try.prog 60 #[.slice (some ⟨b, off, none⟩) n c, .slice (some ⟨b', off', none⟩) n d] w
      fun e w' => e = .returned (.int .i64 (cmpTop l m n)) ∧ ∃ k, w' = w.drewN k := by
  go_enter Try.func60, Try.ntmps60
  go_wp2
  go_loopw [20] (fun t wr => ∃ k : Nat, k ≤ n ∧ t = .int .i64 k ∧ Hid (cmpTop l m n = cmpTop l m (n - k)) ∧ Hid (∃ q, wr = w.drewN q)) (fun t _ => n - (intOf t).toNat)
  case atStart => exact ⟨0, Nat.zero_le _, rfl, rfl, ⟨0, rfl⟩⟩
  case round =>
    obtain ⟨k, hk, rfl, hrel, hw⟩ := hrel
    obtain ⟨q, rfl⟩ := hw.out
    by_cases hlt : k < n
    · have h1 : w.cell? ⟨b, off + (n - 1 - k), none⟩ = some (.int .u32 ((lim l (n - 1 - k) : Nat) : Int)) := hc _ (by omega)
      have h2 : w.cell? ⟨b', off' + (n - 1 - k), none⟩ = some (.int .u32 ((lim m (n - 1 - k) : Nat) : Int)) := hd _ (by omega)
      clear hc hd hw
      have hz1 : (0 : Int) ≤ (n : Int) - 1 - k := by omega
      have hz2 : (n : Int) - 1 - k < n := by omega
      go_wp2
      go_quiet (fail)
      go_wp2
      · go_ret
        refine ⟨?_, _, rfl⟩
        rw [hrel.out, cmpTop_lt (by omega) (by assumption)]; rfl
      · go_ret
        refine ⟨?_, _, rfl⟩
        rw [hrel.out, cmpTop_gt (by omega) (by assumption)]; rfl
      · go_roundw
        case rel => exact ⟨k + 1, by omega, by go_num, hrel.out.trans (cmpTop_eq (by omega) (by omega)), ⟨_, rfl⟩⟩
        case measure => simp [intOf]; omega
    · have e : n - k = 0 := by omega
      clear hc hd hw
      go_wp2
      go_ret
      refine ⟨?_, _, rfl⟩
      rw [hrel.out, e]; rfl

theorem cmpTop_ext {l m : List Nat} (hl : Lb l) (hm : Lb m) (hlen : l.length = m.length) : ∀ k, k ≤ l.length → l.drop k = m.drop k →
    (val l < val m ∧ cmpTop l m k = -1) ∨ (l = m ∧ cmpTop l m k = 0) ∨ (val m < val l ∧ cmpTop l m k = 1) := by
  intro k
  induction k with
  | zero => intro _ h; exact .inr (.inl ⟨by simpa using h, rfl⟩)
  | succ k ih =>
    intro hk h
    unfold cmpTop
    by_cases h1 : lim l k < lim m k
    · rw [if_pos h1]
      exact .inl ⟨cmp_of_top hl hlen (by omega) h h1, rfl⟩
    · rw [if_neg h1]
      by_cases h2 : lim m k < lim l k
      · rw [if_pos h2]
        exact .inr (.inr ⟨cmp_of_top hm hlen.symm (by omega) h.symm h2, rfl⟩)
      · rw [if_neg h2]
        refine ih (by omega) ?_
        rw [lim_get (by omega : k < l.length), lim_get (by omega : k < m.length)] at h1 h2
        rw [List.drop_eq_getElem_cons (by omega : k < l.length), List.drop_eq_getElem_cons (by omega : k < m.length), h, show l[k]'(by omega) = m[k]'(by omega) from by omega]

/-- The program's compare: what 'CmpR' says; the world is as it was, but for draws. -/
theorem compare_c (w : World) (v u : Value) (l m : List Nat) (h : Sl w v l) (k : Sl w u m) :
    Calls Try.prog 60 #[v, u] w (RetI w (CmpR l m)) := by
  obtain ⟨h0, a, c, rfl, h2, h3, h5, h6⟩ := h
  obtain ⟨k0, b, d, rfl, k2, k3, k5, k6⟩ := k
  by_cases hlen : l.length = m.length
  · rcases Nat.eq_zero_or_pos l.length with hz | hp
    · have e1 : l = [] := List.length_eq_zero_iff.1 hz
      have e2 : m = [] := List.length_eq_zero_iff.1 (by omega)
      subst e1; subst e2
      refine (compare_none a b c d w).mono ?_
      rintro e w' ⟨rfl, rfl⟩
      exact ⟨0, rfl, ⟨fun h => absurd rfl h, fun _ => .inr (.inl ⟨rfl, rfl⟩)⟩, 0, rfl⟩
    · obtain ⟨b1, o1, rfl, _, hc⟩ := h6 hp
      obtain ⟨b2, o2, rfl, _, hd⟩ := k6 (by omega)
      rw [← hlen]
      refine (compare_same b1 o1 b2 o2 l.length c d l m w (by omega) hp hc (by rw [hlen]; exact hd)).mono ?_
      rintro e w' ⟨rfl, n, rfl⟩
      refine ⟨_, rfl, ⟨fun h => absurd hlen h, fun _ => ?_⟩, n, rfl⟩
      exact cmpTop_ext h0 k0 hlen l.length (Nat.le_refl _) (by rw [List.drop_of_length_le (Nat.le_refl _), List.drop_of_length_le (by omega)])
  · refine (compare_far a b l.length m.length c d w (by omega) (by omega) hlen).mono ?_
    rintro e w' ⟨rfl, rfl⟩
    exact ⟨_, rfl, ⟨fun _ => rfl, fun h => absurd h hlen⟩, 0, rfl⟩
end Go.Proofs.Ytebmegodeglobaa

namespace Go.Proofs.Ytebmegodeglobaa
open Go.RowKit

set_option maxHeartbeats 400000 in
theorem from_c (n : Nat) (hn : n < 18446744073709551616) (w : World) :
    Calls Try.prog 36 #[.int .u64 (n : Int)] w (RetNat w n) := by
  go_enter Try.func36, Try.ntmps36
  go_wp2_with fail
  have hr := Row32.lit2 w (n % 4294967296) (n / 4294967296) ((n : Int) % 4294967296) ((n : Int) / 4294967296) (by omega) (by omega)
  have hs := Sl.of_row (cap := 2) hr (Lb.cons (by omega) (Lb.cons (by omega) Lb.nil)) (by simp) (by omega)
  have hv : val [n % 4294967296, n / 4294967296] = n := by simp only [val]; omega
  refine (trim_c _ _ _ hs).mono ?_
  rw [hv]
  rintro e w' ⟨⟨a, cap, _, rfl, hs'⟩, rfl⟩
  clear hs hv hr
  have HS := Lib.hid hs'
  clear hs'
  go_wp2_with fail
  go_ret
  exact ⟨_, rfl, HS.out, (Below.refl _ w).alloc (Nat.le_refl _) _⟩

theorem from_i (z : Int) (n : Nat) (hz : z = n) (hn : n < 18446744073709551616) (w : World) :
    Calls Try.prog 36 #[.int .u64 z] w (RetNat w n) := by
  subst hz; exact from_c n hn w

set_option maxHeartbeats 400000 in
theorem one_c (w : World) (v : Value) (l : List Nat) (h : Sl w v l) :
    Calls Try.prog 79 #[v] w (RetB w (l = [1])) := by
  obtain ⟨h0, a, cap, rfl, h2, h3, h5, h6⟩ := h
  match l with
  | [] =>
    go_enter Try.func79, Try.ntmps79
    go_wp2
    go_ret
    exact ⟨false, rfl, by simp, 0, rfl⟩
  | [x] =>
    obtain ⟨b, off, rfl, hlt, hc⟩ := h6 (by simp)
    have hc0 := hc 0 (by simp)
    simp only [Nat.add_zero, lim_cons_zero] at hc0
    clear hc h6 h5 h0
    simp only [List.length_cons, List.length_nil, Nat.zero_add]
    go_enter Try.func79, Try.ntmps79
    go_wp2
    go_ret
    exact ⟨_, rfl, by simp; omega, 0, rfl⟩
  | x :: y :: t =>
    simp only [List.length_cons] at *
    have hne : ((t.length + 1 + 1 : Nat) : Int) ≠ 1 := by omega
    go_enter Try.func79, Try.ntmps79
    go_wp2
    go_ret
    exact ⟨false, rfl, by simp, 0, rfl⟩

set_option maxHeartbeats 400000 in
theorem proper_c (w : World) (v : Value) (l : List Nat) (h : Sl w v l) :
    Calls Try.prog 78 #[v] w (RetB w (l.length ≤ 32 ∧ Canon l)) := by
  have hs := h
  obtain ⟨h0, a, cap, rfl, h2, h3, h5, h6⟩ := h
  clear h5 h6
  by_cases hl : l.length ≤ 32
  · have HS := Lib.hid hs
    clear hs
    go_enter Try.func78, Try.ntmps78
    go_wp2_with fail
    refine (trim_c _ _ _ HS.out).mono ?_
    rintro e w' ⟨⟨a', cap', hv, rfl, hs'⟩, rfl⟩
    clear hv
    have HS' := Lib.hid hs'
    clear hs'
    have hle := limbs_len_le h0
    go_wp2_with fail
    go_ret
    refine ⟨_, rfl, ?_, 0, rfl⟩
    constructor
    · intro h
      simp only [beq_iff_eq] at h
      exact ⟨hl, canon_of_len h0 (by omega)⟩
    · intro h
      have := congrArg List.length h.2
      simp only [beq_iff_eq]; omega
  · go_enter Try.func78, Try.ntmps78
    go_wp2_with fail
    go_ret
    exact ⟨false, rfl, by simp, 0, rfl⟩
end Go.Proofs.Ytebmegodeglobaa
