/- Syntax, the reference: Formed. -/
import Derived.Test.YtganlldidjbpiaaGreatDoorQSyY2
set_option linter.unusedVariables false
namespace Go.Proofs.YtganlldidjbpiaaGreatDoor
open Go.RowKit Go.Shelf

theorem numB_t (z : Int) : numB z true = true ↔ okNum z := by unfold numB okNum; rw [if_pos rfl, decide_eq_true_iff]
theorem numB_f (z : Int) : numB z false = true ↔ z = 0 := by unfold numB; rw [if_neg (by simp), decide_eq_true_iff]
theorem nameB_iff (x : List UInt8) : nameB x = true ↔ okName x := by
  unfold nameB okName
  rw [Bool.and_eq_true, decide_eq_true_iff]
  simp
theorem domW_iff (d : Nat) : domW d ≠ [] ↔ okDom d := by
  constructor
  · intro h
    refine Decidable.byContradiction (fun hn => h ?_)
    unfold okDom at hn
    unfold domW
    rw [if_neg (by omega), if_neg (by omega), if_neg (by omega), if_neg (by omega), if_neg (by omega)]
  · intro h
    have hd' : d = 1 ∨ d = 2 ∨ d = 3 ∨ d = 4 ∨ d = 5 := by have := h.1; have := h.2; omega
    rcases hd' with rfl | rfl | rfl | rfl | rfl <;> decide
theorem formH_true (item : Bool) (sub : Cl → Bool) (c : Cl) {n : Int} {d i a b it ok : Bool} (hG : formF c.kind = ((n, d, i, a, b, it), ok)) : formH item sub c = true ↔ ok = true ∧ it = item ∧ numB c.idx i = true ∧ numB c.a a = true ∧ numB c.b b = true ∧ (if d = true then okDom c.dom else c.dom = 0) ∧ (if 0 ≤ n then (c.names.length : Int) = n else c.names.length ≠ 0) ∧ (∀ x ∈ c.names, okName x) ∧ (if c.kind = 1 then ∀ x ∈ c.items, sub x = true else c.items.length = 0) := by
  unfold formH
  rw [hG]
  simp only [Bool.and_eq_true, decide_eq_true_iff]
  have h1 : ((if d = true then decide (domW c.dom ≠ []) else decide (c.dom = 0)) = true) ↔ (if d = true then okDom c.dom else c.dom = 0) := by
    by_cases hd : d = true
    · rw [if_pos hd, if_pos hd, decide_eq_true_iff]; exact domW_iff _
    · rw [if_neg hd, if_neg hd, decide_eq_true_iff]
  have h2 : ((if 0 ≤ n then decide ((c.names.length : Int) = n) else decide (c.names.length ≠ 0)) = true) ↔ (if 0 ≤ n then (c.names.length : Int) = n else c.names.length ≠ 0) := by
    by_cases hd : 0 ≤ n
    · rw [if_pos hd, if_pos hd, decide_eq_true_iff]
    · rw [if_neg hd, if_neg hd, decide_eq_true_iff]
  have h3 : ((if c.kind = 1 then c.items.all sub else decide (c.items.length = 0)) = true) ↔ (if c.kind = 1 then ∀ x ∈ c.items, sub x = true else c.items.length = 0) := by
    by_cases hd : c.kind = 1
    · rw [if_pos hd, if_pos hd, List.all_eq_true]
    · rw [if_neg hd, if_neg hd, decide_eq_true_iff]
  have h4 : c.names.all nameB = true ↔ ∀ x ∈ c.names, okName x := by
    rw [List.all_eq_true]
    exact ⟨fun h x hx => (nameB_iff x).1 (h x hx), fun h x hx => (nameB_iff x).2 (h x hx)⟩
  rw [h1, h2, h3, h4]
theorem formF_no {k : Nat} (h : k = 0 ∨ 12 < k) : formF k = ((0, false, false, false, false, false), false) := by
  have h1 : k ≠ 1 := by omega
  have h2 : k ≠ 2 := by omega
  have h3 : k ≠ 3 := by omega
  have h4 : k ≠ 4 := by omega
  have h5 : k ≠ 5 := by omega
  have h6 : k ≠ 6 := by omega
  have h7 : k ≠ 7 := by omega
  have h8 : k ≠ 8 := by omega
  have h9 : k ≠ 9 := by omega
  have h10 : k ≠ 10 := by omega
  have h11 : k ≠ 11 := by omega
  have h12 : k ≠ 12 := by omega
  unfold formF
  simp only [h1, h2, h3, h4, h5, h6, h7, h8, h9, h10, h11, h12, if_false]
theorem formH_i (sub : Cl → Bool) (c : Cl) : formH true sub c = formBI c := by
  rw [Bool.eq_iff_iff, formBI_iff]
  have hk : (c.kind = 1 ∨ c.kind = 2 ∨ c.kind = 3 ∨ c.kind = 4 ∨ c.kind = 5) ∨ (c.kind = 6 ∨ c.kind = 7 ∨ c.kind = 8 ∨ c.kind = 9 ∨ c.kind = 10 ∨ c.kind = 11 ∨ c.kind = 12) ∨ (c.kind = 0 ∨ 12 < c.kind) := by omega
  rcases hk with hk | hk | hk
  · have hbad : ¬ formI c := fun h => by have := h.1.1; omega
    rcases hk with h | h | h | h | h
    · rw [formH_true true sub c (show formF c.kind = ((1, false, false, false, false, false), true) from by rw [h]; rfl)]
      exact ⟨fun hh => (by have h2 := hh.2.1; cases h2), fun hh => absurd hh hbad⟩
    · rw [formH_true true sub c (show formF c.kind = ((0, true, true, true, true, false), true) from by rw [h]; rfl)]
      exact ⟨fun hh => (by have h2 := hh.2.1; cases h2), fun hh => absurd hh hbad⟩
    · rw [formH_true true sub c (show formF c.kind = ((0, true, true, false, false, false), true) from by rw [h]; rfl)]
      exact ⟨fun hh => (by have h2 := hh.2.1; cases h2), fun hh => absurd hh hbad⟩
    · rw [formH_true true sub c (show formF c.kind = ((0, false, false, true, false, false), true) from by rw [h]; rfl)]
      exact ⟨fun hh => (by have h2 := hh.2.1; cases h2), fun hh => absurd hh hbad⟩
    · rw [formH_true true sub c (show formF c.kind = ((0, false, true, true, false, false), true) from by rw [h]; rfl)]
      exact ⟨fun hh => (by have h2 := hh.2.1; cases h2), fun hh => absurd hh hbad⟩
  · rcases hk with h | h | h | h | h | h | h
    · rw [formH_true true sub c (show formF c.kind = ((0, false, false, true, false, true), true) from by rw [h]; rfl)]
      unfold formI
      simp only [h, numB_t, numB_f]
      constructor
      · rintro ⟨_, _, h3, h4, h5, h6, h7, h8, h9⟩
        refine ⟨by omega, h3, h5, by simpa using h4, by simpa using h6, ?_, h8, List.length_eq_zero_iff.1 (by simpa using h9)⟩
        simpa using h7
      · rintro ⟨_, h3, h5, h4, h6, h7, h8, h9⟩
        refine ⟨trivial, trivial, h3, by simpa using h4, h5, by simpa using h6, by simpa using h7, h8, by simp [h9]⟩
    · rw [formH_true true sub c (show formF c.kind = ((0, false, false, true, false, true), true) from by rw [h]; rfl)]
      unfold formI
      simp only [h, numB_t, numB_f]
      constructor
      · rintro ⟨_, _, h3, h4, h5, h6, h7, h8, h9⟩
        refine ⟨by omega, h3, h5, by simpa using h4, by simpa using h6, ?_, h8, List.length_eq_zero_iff.1 (by simpa using h9)⟩
        simpa using h7
      · rintro ⟨_, h3, h5, h4, h6, h7, h8, h9⟩
        refine ⟨trivial, trivial, h3, by simpa using h4, h5, by simpa using h6, by simpa using h7, h8, by simp [h9]⟩
    · rw [formH_true true sub c (show formF c.kind = ((0, false, false, true, false, true), true) from by rw [h]; rfl)]
      unfold formI
      simp only [h, numB_t, numB_f]
      constructor
      · rintro ⟨_, _, h3, h4, h5, h6, h7, h8, h9⟩
        refine ⟨by omega, h3, h5, by simpa using h4, by simpa using h6, ?_, h8, List.length_eq_zero_iff.1 (by simpa using h9)⟩
        simpa using h7
      · rintro ⟨_, h3, h5, h4, h6, h7, h8, h9⟩
        refine ⟨trivial, trivial, h3, by simpa using h4, h5, by simpa using h6, by simpa using h7, h8, by simp [h9]⟩
    · rw [formH_true true sub c (show formF c.kind = ((0, true, false, true, false, true), true) from by rw [h]; rfl)]
      unfold formI
      simp only [h, numB_t, numB_f]
      constructor
      · rintro ⟨_, _, h3, h4, h5, h6, h7, h8, h9⟩
        refine ⟨by omega, h3, h5, by simpa using h4, by simpa using h6, ?_, h8, List.length_eq_zero_iff.1 (by simpa using h9)⟩
        simpa using h7
      · rintro ⟨_, h3, h5, h4, h6, h7, h8, h9⟩
        refine ⟨trivial, trivial, h3, by simpa using h4, h5, by simpa using h6, by simpa using h7, h8, by simp [h9]⟩
    · rw [formH_true true sub c (show formF c.kind = ((-1, false, false, false, false, true), true) from by rw [h]; rfl)]
      unfold formI
      simp only [h, numB_f]
      constructor
      · rintro ⟨_, _, h3, h4, h5, h6, h7, h8, h9⟩
        refine ⟨by omega, h3, h5, by simpa using h4, by simpa using h6, ?_, h8, List.length_eq_zero_iff.1 (by simpa using h9)⟩
        simpa using h7
      · rintro ⟨_, h3, h5, h4, h6, h7, h8, h9⟩
        refine ⟨trivial, trivial, h3, by simpa using h4, h5, by simpa using h6, by simpa using h7, h8, by simp [h9]⟩
    · rw [formH_true true sub c (show formF c.kind = ((1, false, false, true, false, true), true) from by rw [h]; rfl)]
      unfold formI
      simp only [h, numB_t, numB_f]
      constructor
      · rintro ⟨_, _, h3, h4, h5, h6, h7, h8, h9⟩
        refine ⟨by omega, h3, h5, by simpa using h4, by simpa using h6, ?_, h8, List.length_eq_zero_iff.1 (by simpa using h9)⟩
        have h7' : (c.names.length : Int) = 1 := by simpa using h7
        simp
        omega
      · rintro ⟨_, h3, h5, h4, h6, h7, h8, h9⟩
        refine ⟨trivial, trivial, h3, by simpa using h4, h5, by simpa using h6, by (have h7' : c.names.length = 1 := by simpa using h7); simp; omega, h8, by simp [h9]⟩
    · rw [formH_true true sub c (show formF c.kind = ((0, false, false, true, false, true), true) from by rw [h]; rfl)]
      unfold formI
      simp only [h, numB_t, numB_f]
      constructor
      · rintro ⟨_, _, h3, h4, h5, h6, h7, h8, h9⟩
        refine ⟨by omega, h3, h5, by simpa using h4, by simpa using h6, ?_, h8, List.length_eq_zero_iff.1 (by simpa using h9)⟩
        simpa using h7
      · rintro ⟨_, h3, h5, h4, h6, h7, h8, h9⟩
        refine ⟨trivial, trivial, h3, by simpa using h4, h5, by simpa using h6, by simpa using h7, h8, by simp [h9]⟩
  · rw [formH_true true sub c (formF_no hk)]
    exact ⟨fun hh => (by have h2 := hh.1; cases h2), fun hh => (by have h2 := hh.1; omega)⟩
theorem formH_t (c : Cl) : formH false formBI c = formBT c := by
  rw [Bool.eq_iff_iff, formBT_iff]
  have hk : (c.kind = 1 ∨ c.kind = 2 ∨ c.kind = 3 ∨ c.kind = 4 ∨ c.kind = 5) ∨ (c.kind = 6 ∨ c.kind = 7 ∨ c.kind = 8 ∨ c.kind = 9 ∨ c.kind = 10 ∨ c.kind = 11 ∨ c.kind = 12) ∨ (c.kind = 0 ∨ 12 < c.kind) := by omega
  rcases hk with hk | hk | hk
  · rcases hk with h | h | h | h | h
    · rw [formH_true false formBI c (show formF c.kind = ((1, false, false, false, false, false), true) from by rw [h]; rfl)]
      unfold formT
      simp only [h, numB_f]
      constructor
      · rintro ⟨_, _, h3, h4, h5, h6, h7, h8, h9⟩
        refine ⟨by omega, by simpa using h3, by simpa using h4, by simpa using h5, by simpa using h6, ?_, h8, ?_⟩
        · have h7' : (c.names.length : Int) = 1 := by simpa using h7
          simp
          omega
        · simp only [if_true] at h9 ⊢; exact fun x hx => (formBI_iff x).1 (h9 x hx)
      · rintro ⟨_, h3, h4, h5, h6, h7, h8, h9⟩
        refine ⟨trivial, trivial, by simpa using h3, by simpa using h4, by simpa using h5, by simpa using h6, ?_, h8, ?_⟩
        · have h7' : c.names.length = 1 := by simpa using h7
          simp
          omega
        · simp only [if_true] at h9 ⊢; exact fun x hx => (formBI_iff x).2 (h9 x hx)
    · rw [formH_true false formBI c (show formF c.kind = ((0, true, true, true, true, false), true) from by rw [h]; rfl)]
      unfold formT
      simp only [h, numB_t]
      constructor
      · rintro ⟨_, _, h3, h4, h5, h6, h7, h8, h9⟩
        refine ⟨by omega, by simpa using h3, by simpa using h4, by simpa using h5, by simpa using h6, ?_, h8, ?_⟩
        · simpa using h7
        · simpa using h9
      · rintro ⟨_, h3, h4, h5, h6, h7, h8, h9⟩
        refine ⟨trivial, trivial, by simpa using h3, by simpa using h4, by simpa using h5, by simpa using h6, ?_, h8, ?_⟩
        · simpa using h7
        · simpa using h9
    · rw [formH_true false formBI c (show formF c.kind = ((0, true, true, false, false, false), true) from by rw [h]; rfl)]
      unfold formT
      simp only [h, numB_t, numB_f]
      constructor
      · rintro ⟨_, _, h3, h4, h5, h6, h7, h8, h9⟩
        refine ⟨by omega, by simpa using h3, by simpa using h4, by simpa using h5, by simpa using h6, ?_, h8, ?_⟩
        · simpa using h7
        · simpa using h9
      · rintro ⟨_, h3, h4, h5, h6, h7, h8, h9⟩
        refine ⟨trivial, trivial, by simpa using h3, by simpa using h4, by simpa using h5, by simpa using h6, ?_, h8, ?_⟩
        · simpa using h7
        · simpa using h9
    · rw [formH_true false formBI c (show formF c.kind = ((0, false, false, true, false, false), true) from by rw [h]; rfl)]
      unfold formT
      simp only [h, numB_t, numB_f]
      constructor
      · rintro ⟨_, _, h3, h4, h5, h6, h7, h8, h9⟩
        refine ⟨by omega, by simpa using h3, by simpa using h4, by simpa using h5, by simpa using h6, ?_, h8, ?_⟩
        · simpa using h7
        · simpa using h9
      · rintro ⟨_, h3, h4, h5, h6, h7, h8, h9⟩
        refine ⟨trivial, trivial, by simpa using h3, by simpa using h4, by simpa using h5, by simpa using h6, ?_, h8, ?_⟩
        · simpa using h7
        · simpa using h9
    · rw [formH_true false formBI c (show formF c.kind = ((0, false, true, true, false, false), true) from by rw [h]; rfl)]
      unfold formT
      simp only [h, numB_t, numB_f]
      constructor
      · rintro ⟨_, _, h3, h4, h5, h6, h7, h8, h9⟩
        refine ⟨by omega, by simpa using h3, by simpa using h4, by simpa using h5, by simpa using h6, ?_, h8, ?_⟩
        · simpa using h7
        · simpa using h9
      · rintro ⟨_, h3, h4, h5, h6, h7, h8, h9⟩
        refine ⟨trivial, trivial, by simpa using h3, by simpa using h4, by simpa using h5, by simpa using h6, ?_, h8, ?_⟩
        · simpa using h7
        · simpa using h9
  · have hbad : ¬ formT c := fun h => by have := h.1.2; omega
    rcases hk with h | h | h | h | h | h | h
    · rw [formH_true false formBI c (show formF c.kind = ((0, false, false, true, false, true), true) from by rw [h]; rfl)]
      exact ⟨fun hh => (by have h2 := hh.2.1; cases h2), fun hh => absurd hh hbad⟩
    · rw [formH_true false formBI c (show formF c.kind = ((0, false, false, true, false, true), true) from by rw [h]; rfl)]
      exact ⟨fun hh => (by have h2 := hh.2.1; cases h2), fun hh => absurd hh hbad⟩
    · rw [formH_true false formBI c (show formF c.kind = ((0, false, false, true, false, true), true) from by rw [h]; rfl)]
      exact ⟨fun hh => (by have h2 := hh.2.1; cases h2), fun hh => absurd hh hbad⟩
    · rw [formH_true false formBI c (show formF c.kind = ((0, true, false, true, false, true), true) from by rw [h]; rfl)]
      exact ⟨fun hh => (by have h2 := hh.2.1; cases h2), fun hh => absurd hh hbad⟩
    · rw [formH_true false formBI c (show formF c.kind = ((-1, false, false, false, false, true), true) from by rw [h]; rfl)]
      exact ⟨fun hh => (by have h2 := hh.2.1; cases h2), fun hh => absurd hh hbad⟩
    · rw [formH_true false formBI c (show formF c.kind = ((1, false, false, true, false, true), true) from by rw [h]; rfl)]
      exact ⟨fun hh => (by have h2 := hh.2.1; cases h2), fun hh => absurd hh hbad⟩
    · rw [formH_true false formBI c (show formF c.kind = ((0, false, false, true, false, true), true) from by rw [h]; rfl)]
      exact ⟨fun hh => (by have h2 := hh.2.1; cases h2), fun hh => absurd hh hbad⟩
  · rw [formH_true false formBI c (formF_no hk)]
    exact ⟨fun hh => (by have h2 := hh.1; cases h2), fun hh => (by have h2 := hh.1; omega)⟩
theorem rformed_i (D : Nat → Prop) (w : World) (c : Cl) (vn vi : Value) (h : HasC D w vn vi c) : Calls Tryz.prog 31 #[.agg (clV c vn vi).toArray, .bool true] w (RetB w (formBI c)) := by
  have := rformed_g D true formBI w c vn vi h (fun e => by cases e)
  rwa [formH_i] at this
theorem rformed_t (D : Nat → Prop) (w : World) (c : Cl) (vn vi : Value) (h : HasC D w vn vi c) : Calls Tryz.prog 31 #[.agg (clV c vn vi).toArray, .bool false] w (RetB w (formBT c)) := by
  have := rformed_g D false formBI w c vn vi h (fun _ x _ W vn vi hx => rformed_i D W x vn vi hx)
  rwa [formH_t] at this
end Go.Proofs.YtganlldidjbpiaaGreatDoor
