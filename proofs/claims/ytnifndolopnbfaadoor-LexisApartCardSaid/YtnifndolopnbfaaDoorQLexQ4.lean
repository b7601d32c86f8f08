/- Lexis, plain: two texts with a line feed between them. No program in it. -/
import Derived.Test.YtnifndolopnbfaaDoorK07
set_option linter.unusedVariables false
namespace Go.Proofs.YtnifndolopnbfaaDoor

/-- A token moved on. -/
def move (n : Nat) (t : Tok) : Tok := t.at_ (t.off + (n : Int))
theorem items_move (n : Nat) (l : List UInt8) : items n l = (items 0 l).map fun x => (move n x.1, x.2) := by
  have := items_shift n 0 l
  rw [Nat.zero_add] at this
  rw [this]
  rfl
theorem fin_move (n : Nat) : ∀ (l : List (Tok × Nat)) (acc acc' : List Tok), (fin l acc').2.2 ≠ 0 → fin (l.map fun x => (move n x.1, x.2)) acc = ([], (fin l acc').2.1 + (n : Int), (fin l acc').2.2)
  | [], acc, acc', h => by simp [fin] at h
  | (t, e) :: r, acc, acc', h => by
    by_cases h0 : e = 0
    · rw [fin, if_pos h0] at h ⊢
      rw [List.map_cons, fin, if_pos h0]
      exact fin_move n r _ _ h
    · rw [List.map_cons, fin, if_neg h0, fin, if_neg h0]
      rfl
section
variable {a b : List UInt8}
theorem apart_len (ha : a.length ≤ 2000) (hb : b.length ≤ 2000) : (a ++ 10 :: b).length ≤ 4096 := by
  rw [List.length_append, List.length_cons]; omega
theorem toks_not {l : List UInt8} (hl : l.length ≤ 4096) (h : (toksF l).2.2 ≠ 0) : ¬ okI (items 0 l) := by
  intro hok
  rw [toksF_ok (by omega), fin_ok _ _ hok] at h
  exact h rfl
/-- An error of the first text. -/
theorem apart_first (ha : a.length ≤ 2000) (hb : b.length ≤ 2000) (h : (toksF a).2.2 ≠ 0) : toksF (a ++ 10 :: b) = toksF a := by
  have hn := toks_not (by omega) h
  have := (items_apart b 0 a).2 hn
  rw [toksF_ok (by have := apart_len ha hb; omega), toksF_ok (by omega), this]
/-- An error of the second text. -/
theorem apart_second (ha : a.length ≤ 2000) (hb : b.length ≤ 2000) (h0 : (toksF a).2.2 = 0) (h : (toksF b).2.2 ≠ 0) : toksF (a ++ 10 :: b) = ([], (a.length : Int) + 1 + (toksF b).2.1, (toksF b).2.2) := by
  obtain ⟨_, hok, _⟩ := toks_good h0
  have e := (items_apart b 0 a).1 hok
  rw [toksF_ok (by omega)] at h
  rw [toksF_ok (by have := apart_len ha hb; omega), e, fin_app _ _ _ hok, Nat.zero_add, items_move, fin_move (a.length + 1) (items 0 b) _ [] h, toksF_ok (l := b) (by omega)]
  congr 2
  omega
/-- No error. -/
theorem apart_both (ha : a.length ≤ 2000) (hb : b.length ≤ 2000) (h0 : (toksF a).2.2 = 0) (h1 : (toksF b).2.2 = 0) : toksF (a ++ 10 :: b) = ((toksF a).1 ++ (toksF b).1.map (move (a.length + 1)), 0, 0) := by
  obtain ⟨_, hok, e1⟩ := toks_good h0
  obtain ⟨_, hok2, e2⟩ := toks_good h1
  have e := (items_apart b 0 a).1 hok
  have hokm : okI ((items 0 b).map fun x => (move (a.length + 1) x.1, x.2)) := by
    intro x hx
    obtain ⟨y, hy, rfl⟩ := List.mem_map.1 hx
    exact hok2 y hy
  rw [toksF_ok (by have := apart_len ha hb; omega), e, fin_app _ _ _ hok, Nat.zero_add, items_move, fin_ok _ _ hokm, e1, e2]
  simp [List.map_map, Function.comp_def]
end
theorem move_bare (n : Nat) (us : List Tok) : (us.map (move n)).map bare = us.map bare := by
  rw [List.map_map]
  exact List.map_congr_left (fun t _ => rfl)
theorem toks_off (l : List UInt8) (h : (toksF l).2.2 = 0) : ∀ t ∈ (toksF l).1, 0 ≤ t.off ∧ t.off ≤ 4096 := by
  obtain ⟨h1, _, e⟩ := toks_good h
  rw [e]
  intro t ht
  obtain ⟨x, hx, rfl⟩ := List.mem_map.1 ht
  have := items_off 0 l x hx
  omega
end Go.Proofs.YtnifndolopnbfaaDoor
