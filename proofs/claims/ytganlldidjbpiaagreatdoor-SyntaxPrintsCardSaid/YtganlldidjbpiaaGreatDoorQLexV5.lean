/- Walks of the reference of lexis: Right, Same, Equal (where they answer 'true'). -/
import Derived.Test.YtganlldidjbpiaaGreatDoorQLexV3
import Derived.Test.YtganlldidjbpiaaGreatDoorK14
import Derived.Deep.QuietTactic
set_option linter.unusedVariables false
namespace Go.Proofs.YtganlldidjbpiaaGreatDoor
open Go.RowKit

theorem oneF_zero (l : List UInt8) : oneF l 0 = fst1 l := by
  have hoff := fst1_off l
  unfold oneF
  rw [List.drop_zero]
  cases h : fst1 l with
  | mk t e =>
    cases t with
    | mk k x n f =>
      rw [h] at hoff
      simp only at hoff
      subst hoff
      by_cases he : e = 0
      · subst he; rfl
      · simp [he]
set_option maxRecDepth 100000 in
set_option maxHeartbeats 4000000 in
theorem rRight_c (t : Tok) (w : World) (hl : t.text.length ≤ 9223372036854775807) :
    Calls Tryz.prog 95 #[aggT t] w fun e w' => e = .returned (.bool (decide (rightT t))) ∧ Below w.heap.size w w' := by
  obtain ⟨k, x, n, o⟩ := t
  cases x with
  | nil =>
    have hr : decide (rightT ⟨k, [], n, o⟩) = false := decide_eq_false (fun h => h.1 rfl)
    rw [hr]
    simp only [aggT, show bs [] = (⟨#[]⟩ : ByteArray) from rfl]
    go_enter Tryz.func95, Tryz.ntmps95
    go_wp2_with fail
    go_ret
    exact ⟨rfl, held_alloc (Below.refl _ _)⟩
  | cons c m =>
    rw [right_dec _ (by simp)]
    simp only [aggT]
    obtain ⟨⟨⟨k', x', n', f⟩, e⟩, hf⟩ : ∃ p, fst1 (c :: m) = p := ⟨_, rfl⟩
    simp only [hf]
    have hemp : (bs (c :: m)).toList.isEmpty = false := by rw [list_ba]; rfl
    have HF : Hid (oneF (c :: m) 0 = (⟨k', x', n', f⟩, e)) := by show _ = _; rw [oneF_zero, hf]
    have hlen : (c :: m).length ≤ 9223372036854775807 := hl
    clear hf
    go_enter Tryz.func95, Tryz.ntmps95
    go_wp2_with fail
    refine (rone_c (c :: m) 0 (by simp) _ (by omega)).mono ?_
    rintro e' w3 ⟨rfl, hb3⟩
    rw [HF.out]
    simp only [aggT]
    have b1 := (Box.new w #[.int .u8 (k : Int), .string (bs (c :: m)), .int .i64 n, .int .i64 o] 37).after hb3
    obtain ⟨r0, r1, r2, r3⟩ := b1.cells4
    have hlt := b1.lt
    have HB : Hid (Below w.heap.size w w3) := (held_alloc (Below.refl _ w)).trans (hb3.mono (by simp))
    clear hb3 b1
    by_cases he : e = 0
    · subst he
      by_cases hk : k' = k
      · subst hk
        by_cases hx : x' = c :: m
        · subst hx
          by_cases hn : n' = n
          · subst hn
            go_wp2_with fail
            go_ret
            exact ⟨ret_bool (by simp), held_alloc HB.out (by have := HB.out.size; omega)⟩
          · have hn' : (n' == n) = false := by simpa using hn
            go_wp2_with fail
            go_ret
            exact ⟨ret_bool (by simp), held_alloc HB.out (by have := HB.out.size; omega)⟩
        · have hx' : ((bs x').toList == (bs (c :: m)).toList) = false := by rw [list_ba, list_ba]; simpa using hx
          go_wp2_with fail
          go_ret
          exact ⟨ret_bool (by simp), held_alloc HB.out (by have := HB.out.size; omega)⟩
      · have hk' : ((k' : Int) == (k : Int)) = false := by simp; omega
        go_wp2_with fail
        go_ret
        exact ⟨ret_bool (by simp), held_alloc HB.out (by have := HB.out.size; omega)⟩
    · have he' : ((e : Int) == 0) = false := by simp; omega
      go_wp2_with fail
      go_ret
      exact ⟨ret_bool (by simp [he]), held_alloc HB.out (by have := HB.out.size; omega)⟩

theorem bare_tok {ts us : List Tok} (h : ts.map bare = us.map bare) {i : Nat} (hi : i < ts.length) : (tok us i).kind = (tok ts i).kind ∧ (tok us i).text = (tok ts i).text ∧ (tok us i).num = (tok ts i).num := by
  have hl : ts.length = us.length := by have := congrArg List.length h; simpa using this
  have e : (ts.map bare)[i]? = (us.map bare)[i]? := by rw [h]
  rw [List.getElem?_map, List.getElem?_map, tok_some hi, tok_some (by omega)] at e
  simp only [Option.map_some, bare, Tok.at_, Option.some.injEq, Tok.mk.injEq] at e
  exact ⟨e.1.symm, e.2.1.symm, e.2.2.1.symm⟩
end Go.Proofs.YtganlldidjbpiaaGreatDoor
