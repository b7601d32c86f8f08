/- Journal, plain: one byte of the lines of some records changed. No program in sight. -/
import Derived.Test.YtpaoeeamlinaaaaGreatDoorK02
set_option linter.unusedVariables false
namespace Go.Proofs.YtpaoeeamlinaaaaGreatDoor
open Go

theorem changed_lines {rs : List Rec} (h : ∀ r ∈ rs, CanW r) (hl : rs.length ≤ 400) (hlen : ∀ r ∈ rs, (lineT r).length ≤ 9972) {S : List UInt8} (hS : rs.flatMap lineT = S) {i q : Nat} {r : Rec} (hi : i < rs.length) (hr : rs[i] = r)
    {f : Nat} (hf : ((rs.take i).flatMap lineT).length = f) (h1 : f ≤ q) (h2 : q < f + (lineT r).length) (c' : UInt8) (hq : q < S.length) (hc : c' ≠ S[q]) :
    ∃ er, readF (S.take q ++ c' :: S.drop (q + 1)) = (rs.take i, f, er) ∧ (er = 0 ↔ q + 1 = S.length) := by
  obtain ⟨P, hP⟩ : ∃ P, (rs.take i).flatMap lineT = P := ⟨_, rfl⟩
  obtain ⟨R, hR⟩ : ∃ R, (rs.drop (i + 1)).flatMap lineT = R := ⟨_, rfl⟩
  have hsplit : S = P ++ (lineT r ++ R) := by
    rw [← hS, ← hP, ← hR]
    conv => lhs; rw [← List.take_append_drop i rs, List.drop_eq_getElem_cons hi, hr]
    rw [List.flatMap_append, List.flatMap_cons]
  rw [hP] at hf
  subst hf
  obtain ⟨j, rfl⟩ : ∃ j, q = P.length + j := ⟨q - P.length, by omega⟩
  have hj : j < (lineT r).length := by omega
  have eL : lineT r = (lineT r).take j ++ (lineT r)[j] :: (lineT r).drop (j + 1) := by
    rw [← List.drop_eq_getElem_cons hj, List.take_append_drop]
  have hcj : c' ≠ (lineT r)[j] := by
    intro e
    apply hc
    rw [e]
    have : S[P.length + j]? = (lineT r)[j]? := by
      rw [hsplit, List.getElem?_append_right (by omega), show P.length + j - P.length = j by omega, List.getElem?_append_left hj]
    rw [List.getElem?_eq_getElem hq, List.getElem?_eq_getElem hj] at this
    exact (Option.some.inj this).symm
  have hR' : R = [] ∨ ∃ r2 R2, R = lineT r2 ++ R2 := by
    rw [← hR]
    cases rs.drop (i + 1) with
    | nil => left; rfl
    | cons x l => right; exact ⟨x, l.flatMap lineT, by simp⟩
  have ht : S.take (P.length + j) ++ c' :: S.drop (P.length + j + 1) = P ++ ((lineT r).take j ++ c' :: ((lineT r).drop (j + 1) ++ R)) := by
    rw [hsplit, List.take_append, List.drop_append]
    rw [List.take_of_length_le (by omega), List.drop_eq_nil_of_le (by omega), show P.length + j - P.length = j by omega, show P.length + j + 1 - P.length = j + 1 by omega]
    rw [List.take_append_of_le_length (by omega), List.drop_append_of_le_length (by omega)]
    simp
  have hmem : ∀ x ∈ rs.take i, CanW x := fun x hx => h x (List.mem_of_mem_take hx)
  obtain ⟨er, e1, e2⟩ := read_changed eL hcj (hlen r (by rw [← hr]; exact List.getElem_mem hi)) R hR' (rs.take i) P.length (P ++ ((lineT r).take j ++ c' :: ((lineT r).drop (j + 1) ++ R))).length
  refine ⟨er, ?_, e2.trans ?_⟩
  · unfold readF
    rw [ht]
    have := read_lines (out := []) (n := 0) (rest := (lineT r).take j ++ c' :: ((lineT r).drop (j + 1) ++ R)) (k := (P ++ ((lineT r).take j ++ c' :: ((lineT r).drop (j + 1) ++ R))).length + 1) hmem (by rw [List.length_take]; simp; omega) (by rw [hP]; omega)
    rw [hP] at this
    rw [this, List.nil_append, Nat.zero_add, e1]
  · have hSl : S.length = P.length + ((lineT r).length + R.length) := by rw [hsplit]; simp
    have hB : ((lineT r).drop (j + 1)).length = (lineT r).length - (j + 1) := List.length_drop
    rw [← List.length_eq_zero_iff, ← List.length_eq_zero_iff, hB, hSl]
    omega
end Go.Proofs.YtpaoeeamlinaaaaGreatDoor
