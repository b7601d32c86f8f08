/- Journal, plain: what the reference's plan and record make of numbers. No program in sight. -/
import Derived.Test.YtpaoeeamlinaaaaGreatDoorK01
set_option linter.unusedVariables false
namespace Go.Proofs.YtpaoeeamlinaaaaGreatDoor
open Go

/-- The i-th step among the numbers. -/
def stpAt (l : List Int) (i : Nat) : Stp := ⟨(l.getD (1 + 4 * i) 0 % 256).toNat, l.getD (2 + 4 * i) 0, l.getD (3 + 4 * i) 0, l.getD (4 + 4 * i) 0⟩
def stepsR (l : List Int) (n : Nat) : List Stp := (List.range n).map (stpAt l)
theorem stepsR_succ (l : List Int) (n : Nat) : stepsR l (n + 1) = stepsR l n ++ [stpAt l n] := by
  unfold stepsR
  rw [List.range_succ, List.map_append]; rfl
theorem stepsR_at (l : List Int) (n i : Nat) (h : i < (stepsR l n).length) : (stepsR l n)[i] = stpAt l i := by
  simp [stepsR]
theorem stepsR_len (l : List Int) (n : Nat) : (stepsR l n).length = n := by unfold stepsR; simp
/-- The lists behind the steps. -/
def aftR : Nat → List Int → List (List Int)
  | 0, _ => []
  | _ + 1, [] => []
  | n + 1, x :: xs => if x < (xs.length : Int) + 1 then xs.take x.toNat :: aftR n (xs.drop x.toNat) else []
def planX (l : List Int) : List Stp × List (List Int) := match l with
  | [] => ([], [])
  | x :: _ => if 12 < x ∨ (l.length : Int) < 1 + 4 * x then ([], []) else (stepsR l x.toNat, aftR x.toNat (l.drop (1 + 4 * x.toNat)))
theorem aftR_all : ∀ ls : List (List Int), aftR ls.length (ls.flatMap lenL) = ls
  | [] => rfl
  | a :: ls => by
    rw [List.length_cons, List.flatMap_cons]
    show aftR (ls.length + 1) ((a.length : Int) :: (a ++ ls.flatMap lenL)) = _
    rw [aftR, if_pos (by rw [List.length_append]; omega)]
    have e : ((a.length : Int)).toNat = a.length := by omega
    rw [e, List.take_left, List.drop_left, aftR_all ls]
theorem fm_getD : ∀ (ss : List Stp) (z : List Int) (i j : Nat), i < ss.length → j < 4 → (ss.flatMap stepL ++ z).getD (4 * i + j) 0 = (stepL (ss.getD i ⟨0, 0, 0, 0⟩)).getD j 0
  | [], _, i, _, hi, _ => by simp at hi
  | s :: ss, z, 0, j, _, hj => by
    rw [List.flatMap_cons]
    match j, hj with
    | 0, _ => rfl
    | 1, _ => rfl
    | 2, _ => rfl
    | 3, _ => rfl
  | s :: ss, z, i + 1, j, hi, hj => by
    have e : 4 * (i + 1) + j = (4 * i + j) + 4 := by omega
    rw [List.flatMap_cons, e]
    show (ss.flatMap stepL ++ z).getD (4 * i + j) 0 = _
    rw [fm_getD ss z i j (by simpa using hi) hj]
    rfl
theorem stepsR_all (ss : List Stp) (ls : List (List Int)) (h : ∀ s ∈ ss, s.kind < 256) : stepsR (planned ss ls) ss.length = ss := by
  apply List.ext_getElem
  · rw [stepsR_len]
  · intro i h1 h2
    have hk : (ss[i]).kind < 256 := h _ (List.getElem_mem h2)
    rw [stepsR_at]
    have hg : ∀ j, j < 4 → (planned ss ls).getD (j + 1 + 4 * i) 0 = (stepL ss[i]).getD j 0 := fun j hj => by
      have e : j + 1 + 4 * i = (4 * i + j) + 1 := by omega
      rw [e]
      show (ss.flatMap stepL ++ ls.flatMap lenL).getD (4 * i + j) 0 = _
      rw [fm_getD ss _ i j h2 hj, show ss.getD i ⟨0, 0, 0, 0⟩ = ss[i] from by rw [List.getD_eq_getElem?_getD, List.getElem?_eq_getElem h2]; rfl]
    have g0 := hg 0 (by omega)
    have g1 := hg 1 (by omega)
    have g2 := hg 2 (by omega)
    have g3 := hg 3 (by omega)
    unfold stpAt
    rw [show 1 + 4 * i = 0 + 1 + 4 * i from by omega, show 2 + 4 * i = 1 + 1 + 4 * i from by omega, show 3 + 4 * i = 2 + 1 + 4 * i from by omega, show 4 + 4 * i = 3 + 1 + 4 * i from by omega, g0, g1, g2, g3]
    generalize ss[i] = q at hk ⊢
    obtain ⟨k, h', s, v⟩ := q
    show (⟨((k : Int) % 256).toNat, h', s, v⟩ : Stp) = _
    have : ((k : Int) % 256).toNat = k := by have : k < 256 := hk; omega
    rw [this]
theorem flat4_len (ss : List Stp) (z : List Int) : (ss.flatMap stepL ++ z).length = 4 * ss.length + z.length := by
  induction ss with
  | nil => simp
  | cons s ss ih => rw [List.flatMap_cons, List.append_assoc, List.length_append, ih]; simp [stepL]; omega
theorem drop_steps : ∀ (ss : List Stp) (z : List Int), (ss.flatMap stepL ++ z).drop (4 * ss.length) = z
  | [], z => by simp
  | s :: ss, z => by
    rw [List.flatMap_cons, List.length_cons, show 4 * (ss.length + 1) = 4 * ss.length + 4 from by omega]
    show (ss.flatMap stepL ++ z).drop (4 * ss.length) = z
    exact drop_steps ss z
theorem planX_all (ss : List Stp) (ls : List (List Int)) (h : ∀ s ∈ ss, s.kind < 256) (h12 : ss.length ≤ 12) (hl : ls.length = ss.length) : planX (planned ss ls) = (ss, ls) := by
  have hlen : (planned ss ls).length = 1 + 4 * ss.length + (ls.flatMap lenL).length := by
    show (ss.flatMap stepL ++ ls.flatMap lenL).length + 1 = _
    rw [flat4_len]; omega
  have e : planX (planned ss ls) = if 12 < (ss.length : Int) ∨ ((planned ss ls).length : Int) < 1 + 4 * (ss.length : Int) then ([], []) else (stepsR (planned ss ls) ((ss.length : Int)).toNat, aftR ((ss.length : Int)).toNat ((planned ss ls).drop (1 + 4 * ((ss.length : Int)).toNat))) := rfl
  rw [e, if_neg (by omega)]
  have e2 : ((ss.length : Int)).toNat = ss.length := by omega
  rw [e2, stepsR_all ss ls h, show 1 + 4 * ss.length = 4 * ss.length + 1 from by omega]
  have e3 : (planned ss ls).drop (4 * ss.length + 1) = ls.flatMap lenL := by
    show (ss.flatMap stepL ++ ls.flatMap lenL).drop (4 * ss.length) = _
    exact drop_steps ss _
  rw [e3, ← hl, aftR_all]
/-- The record of a word and numbers. -/
def recR (wd : List UInt8) (l : List Int) : Rec :=
  if wd = wordK 1 then ⟨1, 0, 0, 0, 0, (planX l).1, (planX l).2⟩
  else if wd = wordK 2 then (if l.length = 3 then ⟨2, l.getD 0 0, l.getD 1 0, l.getD 2 0, 0, [], []⟩ else Rec.none)
  else if wd = wordK 3 then (if l.length = 2 then ⟨3, 0, l.getD 0 0, 0, (l.getD 1 0 % 256).toNat, [], []⟩ else Rec.none)
  else if wd = wordK 4 then ⟨4, 0, 0, 0, 0, [], []⟩
  else if wd = wordK 5 then ⟨5, 0, 0, 0, 0, [], []⟩
  else Rec.none
theorem recR_all {r : Rec} (h : CanW r) : recR (wordK r.kind) (numsOf r) = r := by
  obtain ⟨⟨hb, h8⟩, _⟩ := h
  obtain ⟨k, pl, id, le, an, ss, ls⟩ := r
  have hk := hb.kind
  simp only at hk
  have hk' : k = 1 ∨ k = 2 ∨ k = 3 ∨ k = 4 ∨ k = 5 := by omega
  have h8' := h8.1
  have h8'' := h8.2
  simp only at h8' h8''
  rcases hk' with rfl | rfl | rfl | rfl | rfl
  · obtain ⟨⟨h1, h2, h3, h4⟩, h5, h6, _⟩ := hb
    simp only at h1 h2 h3 h4 h5 h6
    subst h1 h2 h3 h4
    show (if _ then _ else _) = _
    rw [if_pos rfl]
    show (⟨1, 0, 0, 0, 0, (planX (planned ss ls)).1, (planX (planned ss ls)).2⟩ : Rec) = _
    rw [planX_all ss ls h8'' h5 h6]
  · obtain ⟨h1, h2, h3⟩ := hb
    simp only at h1 h2 h3
    subst h1 h2 h3
    rfl
  · obtain ⟨h1, h2, h3, h4⟩ := hb
    simp only at h1 h2 h3 h4
    subst h1 h2 h3 h4
    show (⟨3, 0, id, 0, ((an : Int) % 256).toNat, [], []⟩ : Rec) = _
    have : ((an : Int) % 256).toNat = an := by omega
    rw [this]
  · obtain ⟨h1, h2, h3, h4, h5, h6⟩ := hb
    simp only at h1 h2 h3 h4 h5 h6
    subst h1 h2 h3 h4 h5 h6
    rfl
  · obtain ⟨h1, h2, h3, h4, h5, h6⟩ := hb
    simp only at h1 h2 h3 h4 h5 h6
    subst h1 h2 h3 h4 h5 h6
    rfl
/-- The number of each word between the first and the last. -/
def midW (ws : List (List UInt8)) (i : Nat) : List (List UInt8) := (ws.take i).drop 1
theorem midW_next {ws : List (List UInt8)} {i : Nat} (h1 : 1 ≤ i) (hi : i < ws.length) : midW ws (i + 1) = midW ws i ++ [ws[i]] := by
  unfold midW
  rw [List.take_succ_eq_append_getElem hi, List.drop_append_of_le_length (by rw [List.length_take]; omega)]
theorem midW_front (r : Rec) : midW (fld (frontT r)) ((fld (frontT r)).length - 1) = (numsOf r).map (fun z => dd z.toNat) := by
  rw [fld_front]
  unfold midW
  rw [List.length_cons, Nat.add_sub_cancel, List.length_append]
  generalize (numsOf r).map (fun z => dd z.toNat) = m
  show ((wordK r.kind :: (m ++ [[]])).take (m.length + 1)).drop 1 = m
  rw [List.take_succ_cons, List.drop_one, List.tail_cons, List.take_left]
end Go.Proofs.YtpaoeeamlinaaaaGreatDoor
