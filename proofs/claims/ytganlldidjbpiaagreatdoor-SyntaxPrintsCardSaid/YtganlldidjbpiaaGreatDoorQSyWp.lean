/- Syntax, plain: a small tree that can be printed has few words. -/
import Derived.Test.YtganlldidjbpiaaGreatDoorQSyWt
import Derived.Test.YtganlldidjbpiaaGreatDoorQSyAr
set_option linter.unusedVariables false
namespace Go.Proofs.YtganlldidjbpiaaGreatDoor
open Go.RowKit Go.Shelf

theorem wrap_at {k : Int} (h0 : -9223372036854775808 ≤ k) (h1 : k ≤ 9223372036854775807) : IntKind.i64.wrap k = k := by rw [IntKind.wrap_i64]; omega
/-- The names of items, and the items. -/
def sI : List Cl → Int
  | [] => 0
  | c :: r => 1 + (c.names.length : Int) + sI r
def sT : List Cl → Int
  | [] => 0
  | c :: r => 1 + (c.names.length : Int) + sI c.items + sT r
theorem sI_pos : ∀ l, 0 ≤ sI l
  | [] => by rw [sI]; omega
  | c :: l => by rw [sI]; have := sI_pos l; omega
theorem sT_pos : ∀ l, 0 ≤ sT l
  | [] => by rw [sT]; omega
  | c :: l => by rw [sT]; have := sT_pos l; have := sI_pos c.items; omega
theorem wgo_items : ∀ (l : List Cl) (n : Int), 0 ≤ n → n ≤ 40000000000000 → (∀ c ∈ l, c.items = [] ∧ c.names.length ≤ 17592186044416) → 0 ≤ wgo 2000 l n ∧ wgo 2000 l n ≤ 40000000000000 ∧ n ≤ wgo 2000 l n ∧ (wgo 2000 l n ≤ 2000 → wgo 2000 l n = n + sI l)
  | [], n, h0, h1, _ => by rw [wgo, sI]; omega
  | c :: l, n, h0, h1, h => by
    obtain ⟨hi, hb⟩ := h c (by simp)
    have hw : wI 2000 c = 0 := by rw [wI_at, hi, wgo]
    by_cases hle : n ≤ 2000
    · have e1 : IntKind.i64.wrap (n + 1) = n + 1 := wrap_at (by omega) (by omega)
      have e2 : IntKind.i64.wrap (n + 1 + (c.names.length : Int)) = n + 1 + (c.names.length : Int) := wrap_at (by omega) (by omega)
      have e3 : IntKind.i64.wrap (n + 1 + (c.names.length : Int) + 0) = n + 1 + (c.names.length : Int) := by rw [Int.add_zero]; exact e2
      rw [wgo, if_pos hle, hw, e1, e2, e3, sI]
      obtain ⟨k1, k2, k3, k4⟩ := wgo_items l (n + 1 + (c.names.length : Int)) (by omega) (by omega) (fun d hd => h d (by simp [hd]))
      refine ⟨k1, k2, by omega, fun hr => ?_⟩
      rw [k4 hr]; omega
    · rw [wgo, if_neg hle]
      refine ⟨h0, h1, Int.le_refl _, fun hr => absurd hr hle⟩
theorem wgo_tops : ∀ (l : List Cl) (n : Int), 0 ≤ n → n ≤ 100000000000000 → (∀ c ∈ l, c.names.length ≤ 17592186044416 ∧ ∀ i ∈ c.items, i.items = [] ∧ i.names.length ≤ 17592186044416) → 0 ≤ wgo 2000 l n ∧ n ≤ wgo 2000 l n ∧ (wgo 2000 l n ≤ 2000 → wgo 2000 l n = n + sT l)
  | [], n, h0, h1, _ => by rw [wgo, sT]; omega
  | c :: l, n, h0, h1, h => by
    obtain ⟨hb, hi⟩ := h c (by simp)
    obtain ⟨g1, g2, _, g4⟩ := wgo_items c.items 0 (by omega) (by omega) hi
    by_cases hle : n ≤ 2000
    · have e1 : IntKind.i64.wrap (n + 1) = n + 1 := wrap_at (by omega) (by omega)
      have e2 : IntKind.i64.wrap (n + 1 + (c.names.length : Int)) = n + 1 + (c.names.length : Int) := wrap_at (by omega) (by omega)
      have e3 : IntKind.i64.wrap (n + 1 + (c.names.length : Int) + wgo 2000 c.items 0) = n + 1 + (c.names.length : Int) + wgo 2000 c.items 0 := wrap_at (by omega) (by omega)
      rw [wgo, if_pos hle, wI_at, e1, e2, e3, sT]
      obtain ⟨k1, k3, k4⟩ := wgo_tops l (n + 1 + (c.names.length : Int) + wgo 2000 c.items 0) (by omega) (by omega) (fun d hd => h d (by simp [hd]))
      refine ⟨k1, by omega, fun hr => ?_⟩
      have g5 := g4 (by omega)
      rw [k4 hr]; omega
    · rw [wgo, if_neg hle]
      refine ⟨h0, Int.le_refl _, fun hr => absurd hr hle⟩
theorem textsI_len (c : Cl) (h : formI c) : ((textsI c).length : Int) ≤ 2 * (c.names.length : Int) + 5 := by
  unfold textsI
  repeat' split
  all_goals simp only [List.length_cons, List.length_append, List.length_nil, commas_len, List.length_tail]
  all_goals omega
theorem flatI_len : ∀ l : List Cl, (∀ c ∈ l, formI c) → ((l.flatMap textsI).length : Int) ≤ 5 * sI l
  | [], _ => by rw [List.flatMap_nil, sI]; simp
  | c :: l, h => by
    rw [List.flatMap_cons, List.length_append, sI]
    have h1 := textsI_len c (h c (by simp))
    have h2 := flatI_len l (fun d hd => h d (by simp [hd]))
    omega
theorem textsT_len (c : Cl) (h : formT c) : ((textsT c).length : Int) ≤ 8 * (1 + (c.names.length : Int) + sI c.items) := by
  have hp := sI_pos c.items
  unfold textsT
  by_cases h1 : c.kind = 1
  · have h2 := flatI_len c.items (by have := h.2.2.2.2.2.2.2; rw [if_pos h1] at this; exact this)
    rw [if_pos h1]
    simp only [List.length_cons, List.length_append, List.length_nil]
    omega
  rw [if_neg h1]
  repeat' split
  all_goals simp only [List.length_cons, List.length_nil]
  all_goals omega
theorem flatT_len : ∀ l : List Cl, (∀ c ∈ l, formT c) → ((l.flatMap textsT).length : Int) ≤ 8 * sT l
  | [], _ => by rw [List.flatMap_nil, sT]; simp
  | c :: l, h => by
    rw [List.flatMap_cons, List.length_append, sT]
    have h1 := textsT_len c (h c (by simp))
    have h2 := flatT_len l (fun d hd => h d (by simp [hd]))
    omega
/-- A small tree that can be printed has few words. -/
theorem small_words {l : List Cl} (hb : ∀ c ∈ l, Bd c) (hs : smallB l = true) (hf : ∀ c ∈ l, formT c) : (l.flatMap textsT).length ≤ 100000 := by
  have h1 := flatT_len l hf
  have hi : ∀ c ∈ l, ∀ i ∈ c.items, formI i := fun c hc i hi => by
    have := (hf c hc).2.2.2.2.2.2.2
    by_cases h1 : c.kind = 1
    · rw [if_pos h1] at this; exact this i hi
    · rw [if_neg h1] at this; rw [this] at hi; cases hi
  obtain ⟨_, _, h2⟩ := wgo_tops l 0 (by omega) (by omega) (fun c hc => ⟨(hb c hc).1, fun i hic => ⟨(hi c hc i hic).2.2.2.2.2.2.2, (hb c hc).2 i hic⟩⟩)
  have hs : wgo 2000 l 0 ≤ 2000 := of_decide_eq_true hs
  have h3 := h2 hs
  omega
end Go.Proofs.YtganlldidjbpiaaGreatDoor
