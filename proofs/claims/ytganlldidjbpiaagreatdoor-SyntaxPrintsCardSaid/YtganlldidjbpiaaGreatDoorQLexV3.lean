/- Walks of the reference of lexis: the token at an offset. -/
import Derived.Test.YtganlldidjbpiaaGreatDoorQLexV2
import Derived.Test.YtganlldidjbpiaaGreatDoorK13
import Derived.StillTailTactics
set_option linter.unusedVariables false
namespace Go.Proofs.YtganlldidjbpiaaGreatDoor
open Go.RowKit

/-- The token at an offset, with that offset, and an error. -/
def oneF (l : List UInt8) (i : Nat) : Tok × Nat := if (fst1 (l.drop i)).2 = 0 then ((fst1 (l.drop i)).1.at_ (i : Int), 0) else fst1 (l.drop i)
theorem extract_mid (l : List UInt8) (i n : Nat) : (bs l).extract i (i + n) = bs ((l.drop i).take n) := by
  rw [extract_bs, List.drop_take, Nat.add_sub_cancel_left]
section
variable {l : List UInt8} {i : Nat}
theorem oneF_ok {t : Tok} (h : fst1 (l.drop i) = (t, 0)) : oneF l i = (t.at_ (i : Int), 0) := by unfold oneF; rw [h]; rfl
theorem oneF_bad {e : Nat} (h : fst1 (l.drop i) = badT e) (he : e ≠ 0) : oneF l i = badT e := by unfold oneF; rw [h]; exact if_neg he
end
set_option maxRecDepth 100000 in
set_option maxHeartbeats 1000000 in
theorem rone_n (l : List UInt8) (i : Nat) (hi : i < l.length) (w : World) (hl : l.length ≤ 9223372036854775807) (h1 : isLet l[i] = true) (N : Nat) (hN : runN isIns (l.drop i) = N) (hz : ¬ 12 < N) (hle : i + N ≤ l.length) :
    Calls Tryz.prog 35 #[.string (bs l), .int .i64 (i : Int)] w (RetT w (⟨1, (l.drop i).take N, 0, (i : Int)⟩, 0)) := by
  have hs : (bs l).size = l.length := bs_size _
  have hext := extract_mid l i N
  obtain ⟨x, hx⟩ : ∃ x, (l.drop i).take N = x := ⟨_, rfl⟩
  rw [hx] at hext ⊢
  have HN := Lib.hid hN
  clear hN hx
  go_enter Tryz.func35, Tryz.ntmps35
  go_wp2_with (first
    | (go_at_call 67; refine (rletter_c l[i] _).mono ?_; rintro e w' ⟨rfl, rfl⟩; rw [h1])
    | (go_at_call 68; refine (rnameEnd_c l i (Nat.le_of_lt hi) _ hl).mono ?_; rintro e w' ⟨rfl, rfl⟩; rw [HN.out]))
  exact bodyPost_ret (v := .tuple #[.agg #[.int .u8 1, .string (bs x), .int .i64 0, .int .i64 (i : Int)], .int .i64 0]) (by simp [results, Tryz.results35, go_sem]; try rfl) rfl ⟨rfl, (Below.refl _ _).alloc (Nat.le_refl _) _⟩
set_option maxRecDepth 100000 in
set_option maxHeartbeats 1000000 in
theorem rone_nl (l : List UInt8) (i : Nat) (hi : i < l.length) (w : World) (hl : l.length ≤ 9223372036854775807) (h1 : isLet l[i] = true) (N : Nat) (hN : runN isIns (l.drop i) = N) (hz : 12 < N) (hle : i + N ≤ l.length) :
    Calls Tryz.prog 35 #[.string (bs l), .int .i64 (i : Int)] w (RetT w (badT 3)) := by
  have hs : (bs l).size = l.length := bs_size _
  have HN := Lib.hid hN
  clear hN
  go_enter Tryz.func35, Tryz.ntmps35
  go_wp2_with (first
    | (go_at_call 67; refine (rletter_c l[i] _).mono ?_; rintro e w' ⟨rfl, rfl⟩; rw [h1])
    | (go_at_call 68; refine (rnameEnd_c l i (Nat.le_of_lt hi) _ hl).mono ?_; rintro e w' ⟨rfl, rfl⟩; rw [HN.out]))
  exact bodyPost_ret (v := .tuple #[.agg #[.int .u8 0, .string ⟨#[]⟩, .int .i64 0, .int .i64 0], .int .i64 3]) (by simp [results, Tryz.results35, go_sem]; try rfl) rfl ⟨rfl, (Below.refl _ _).alloc (Nat.le_refl _) _⟩
set_option maxRecDepth 100000 in
set_option maxHeartbeats 1000000 in
theorem rone_d0 (l : List UInt8) (i : Nat) (hi : i < l.length) (w : World) (hl : l.length ≤ 9223372036854775807) (h1 : isLet l[i] = false) (h2 : isDig l[i] = true) (h3 : l[i].toNat = 48) (N : Nat) (hN : runN isDig (l.drop i) = N) (hz : 1 < N) (hle : i + N ≤ l.length) :
    Calls Tryz.prog 35 #[.string (bs l), .int .i64 (i : Int)] w (RetT w (badT 4)) := by
  have hs : (bs l).size = l.length := bs_size _
  have H3 : Hid (((bs l)[i]'hi).toNat = 48) := h3
  have HN := Lib.hid hN
  clear hN h3
  go_enter Tryz.func35, Tryz.ntmps35
  go_wp2_with (first
    | (go_at_call 67; refine (rletter_c l[i] _).mono ?_; rintro e w' ⟨rfl, rfl⟩; rw [h1])
    | (go_at_call 69; refine (rdigit_c l[i] _).mono ?_; rintro e w' ⟨rfl, rfl⟩; rw [h2])
    | (go_at_call 70; refine (rnumberEnd_c l i (Nat.le_of_lt hi) _ hl).mono ?_; rintro e w' ⟨rfl, rfl⟩; rw [HN.out]))
  all_goals first
    | (exfalso; have := H3.out; omega)
    | exact bodyPost_ret (v := .tuple #[.agg #[.int .u8 0, .string ⟨#[]⟩, .int .i64 0, .int .i64 0], .int .i64 4]) (by simp [results, Tryz.results35, go_sem]; try rfl) rfl ⟨rfl, (Below.refl _ _).alloc (Nat.le_refl _) _⟩
set_option maxRecDepth 100000 in
set_option maxHeartbeats 1000000 in
theorem rone_dl (l : List UInt8) (i : Nat) (hi : i < l.length) (w : World) (hl : l.length ≤ 9223372036854775807) (h1 : isLet l[i] = false) (h2 : isDig l[i] = true) (h3 : l[i].toNat ≠ 48) (N : Nat) (hN : runN isDig (l.drop i) = N) (hz : 9 < N) (hle : i + N ≤ l.length) :
    Calls Tryz.prog 35 #[.string (bs l), .int .i64 (i : Int)] w (RetT w (badT 3)) := by
  have hs : (bs l).size = l.length := bs_size _
  have H3 : Hid (¬ ((bs l)[i]'hi).toNat = 48) := h3
  have HN := Lib.hid hN
  clear hN h3
  go_enter Tryz.func35, Tryz.ntmps35
  go_wp2_with (first
    | (go_at_call 67; refine (rletter_c l[i] _).mono ?_; rintro e w' ⟨rfl, rfl⟩; rw [h1])
    | (go_at_call 69; refine (rdigit_c l[i] _).mono ?_; rintro e w' ⟨rfl, rfl⟩; rw [h2])
    | (go_at_call 70; refine (rnumberEnd_c l i (Nat.le_of_lt hi) _ hl).mono ?_; rintro e w' ⟨rfl, rfl⟩; rw [HN.out]))
  all_goals first
    | (exfalso; have := H3.out; omega)
    | exact bodyPost_ret (v := .tuple #[.agg #[.int .u8 0, .string ⟨#[]⟩, .int .i64 0, .int .i64 0], .int .i64 3]) (by simp [results, Tryz.results35, go_sem]; try rfl) rfl ⟨rfl, (Below.refl _ _).alloc (Nat.le_refl _) _⟩
set_option maxRecDepth 100000 in
set_option maxHeartbeats 1000000 in
theorem rone_d (l : List UInt8) (i : Nat) (hi : i < l.length) (w : World) (hl : l.length ≤ 9223372036854775807) (h1 : isLet l[i] = false) (h2 : isDig l[i] = true) (N : Nat) (hN : runN isDig (l.drop i) = N) (h3 : l[i].toNat ≠ 48 ∨ N ≤ 1) (hz : N ≤ 9) (hle : i + N ≤ l.length) :
    Calls Tryz.prog 35 #[.string (bs l), .int .i64 (i : Int)] w (RetT w (⟨2, (l.drop i).take N, ((numV ((l.drop i).take N) : Nat) : Int), (i : Int)⟩, 0)) := by
  have hs : (bs l).size = l.length := bs_size _
  have hext := extract_mid l i N
  have hdig : ∀ c ∈ (l.drop i).take N, isDig c = true := by rw [← hN]; exact runN_take _ _
  have hxl : ((l.drop i).take N).length ≤ 9 := by rw [List.length_take]; omega
  obtain ⟨x, hx⟩ : ∃ x, (l.drop i).take N = x := ⟨_, rfl⟩
  rw [hx] at hext hdig hxl ⊢
  obtain ⟨V, hV⟩ : ∃ V, numV x = V := ⟨_, rfl⟩
  rw [hV]
  have HV := Lib.hid hV
  have HN := Lib.hid hN
  have HD := Lib.hid hdig
  clear hN hx hV hdig
  by_cases h5 : ((bs l)[i]'hi).toNat = 48
  · have h6 : N ≤ 1 := by
      rcases h3 with h4 | h4
      · exact absurd h5 h4
      · exact h4
    have H5 := Lib.hid h5
    clear h3 h5
    go_enter Tryz.func35, Tryz.ntmps35
    go_wp2_with (first
      | (go_at_call 67; refine (rletter_c l[i] _).mono ?_; rintro e w' ⟨rfl, rfl⟩; rw [h1])
      | (go_at_call 69; refine (rdigit_c l[i] _).mono ?_; rintro e w' ⟨rfl, rfl⟩; rw [h2])
      | (go_at_call 70; refine (rnumberEnd_c l i (Nat.le_of_lt hi) _ hl).mono ?_; rintro e w' ⟨rfl, rfl⟩; rw [HN.out]))
    all_goals first
      | (exfalso; have := H5.out; omega)
      | (have q1 : (0 : Int) ≤ (i : Int) + (N : Int) := by omega
         have q2 : (i : Int) + (N : Int) ≤ (l.length : Int) := by omega
         have q3 : (i : Int) ≤ (i : Int) + (N : Int) := by omega
         have q4 : ((i : Int) + (N : Int)).toNat = i + N := by omega
         refine wp_region_still_tail 11 (by kernel_rfl) (by kernel_rfl) ?_
         simp only [List.take_succ_cons, List.take_zero, List.drop_succ_cons, List.drop_zero]
         repeat still_step
         still_call ((rValue_c x HD.out hxl _).mono (fun e w'' h => ⟨by rw [h.1, HV.out], h.2.symm⟩))
         repeat still_step
         refine wpStill_nil ?_
         change wpList _ _ _ _ _ (World.drew _)
         go_wp2_with fail
         exact bodyPost_ret (v := .tuple #[.agg #[.int .u8 2, .string (bs x), .int .i64 (V : Int), .int .i64 (i : Int)], .int .i64 0]) (by simp [results, Tryz.results35, go_sem]; try rfl) rfl ⟨rfl, below_dr ((Below.refl _ _).alloc (Nat.le_refl _) _)⟩)
  · have H5 := Lib.hid h5
    clear h3 h5
    go_enter Tryz.func35, Tryz.ntmps35
    go_wp2_with (first
      | (go_at_call 67; refine (rletter_c l[i] _).mono ?_; rintro e w' ⟨rfl, rfl⟩; rw [h1])
      | (go_at_call 69; refine (rdigit_c l[i] _).mono ?_; rintro e w' ⟨rfl, rfl⟩; rw [h2])
      | (go_at_call 70; refine (rnumberEnd_c l i (Nat.le_of_lt hi) _ hl).mono ?_; rintro e w' ⟨rfl, rfl⟩; rw [HN.out]))
    all_goals first
      | (exfalso; have := H5.out; omega)
      | (have q1 : (0 : Int) ≤ (i : Int) + (N : Int) := by omega
         have q2 : (i : Int) + (N : Int) ≤ (l.length : Int) := by omega
         have q3 : (i : Int) ≤ (i : Int) + (N : Int) := by omega
         have q4 : ((i : Int) + (N : Int)).toNat = i + N := by omega
         refine wp_region_still_tail 11 (by kernel_rfl) (by kernel_rfl) ?_
         simp only [List.take_succ_cons, List.take_zero, List.drop_succ_cons, List.drop_zero]
         repeat still_step
         still_call ((rValue_c x HD.out hxl _).mono (fun e w'' h => ⟨by rw [h.1, HV.out], h.2.symm⟩))
         repeat still_step
         refine wpStill_nil ?_
         change wpList _ _ _ _ _ (World.drew _)
         go_wp2_with fail
         exact bodyPost_ret (v := .tuple #[.agg #[.int .u8 2, .string (bs x), .int .i64 (V : Int), .int .i64 (i : Int)], .int .i64 0]) (by simp [results, Tryz.results35, go_sem]; try rfl) rfl ⟨rfl, below_dr ((Below.refl _ _).alloc (Nat.le_refl _) _)⟩)
set_option maxRecDepth 100000 in
set_option maxHeartbeats 1000000 in
theorem rone_s (l : List UInt8) (i : Nat) (hi : i < l.length) (w : World) (hl : l.length ≤ 9223372036854775807) (h1 : isLet l[i] = false) (h2 : isDig l[i] = false) (h3 : isSgn l[i] = true) :
    Calls Tryz.prog 35 #[.string (bs l), .int .i64 (i : Int)] w (RetT w (⟨3, [l[i]], 0, (i : Int)⟩, 0)) := by
  have hs : (bs l).size = l.length := bs_size _
  have hext : (bs l).extract i (i + 1) = bs [l[i]] := by rw [extract_mid, drop_next hi, List.take_succ_cons, List.take_zero]
  have H3 : Hid (((bs l)[i]'hi).toNat = 123 ∨ ((bs l)[i]'hi).toNat = 125 ∨ ((bs l)[i]'hi).toNat = 59 ∨ ((bs l)[i]'hi).toNat = 44) := by
    unfold isSgn at h3
    have := of_decide_eq_true h3
    exact this
  clear h3
  go_enter Tryz.func35, Tryz.ntmps35
  go_wp2_with (first
    | (go_at_call 67; refine (rletter_c l[i] _).mono ?_; rintro e w' ⟨rfl, rfl⟩; rw [h1])
    | (go_at_call 69; refine (rdigit_c l[i] _).mono ?_; rintro e w' ⟨rfl, rfl⟩; rw [h2]))
  all_goals first
    | (exfalso; have := H3.out; simp only [beq_iff_eq, beq_eq_false_iff_ne, ne_eq] at *; omega)
    | exact bodyPost_ret (v := .tuple #[.agg #[.int .u8 3, .string (bs [l[i]]), .int .i64 0, .int .i64 (i : Int)], .int .i64 0]) (by simp [results, Tryz.results35, go_sem]; try rfl) rfl ⟨rfl, (Below.refl _ _).alloc (Nat.le_refl _) _⟩
set_option maxRecDepth 100000 in
set_option maxHeartbeats 1000000 in
theorem rone_x (l : List UInt8) (i : Nat) (hi : i < l.length) (w : World) (hl : l.length ≤ 9223372036854775807) (h1 : isLet l[i] = false) (h2 : isDig l[i] = false) (h3 : isSgn l[i] = false) :
    Calls Tryz.prog 35 #[.string (bs l), .int .i64 (i : Int)] w (RetT w (badT 4)) := by
  have hs : (bs l).size = l.length := bs_size _
  have H3 : Hid (¬ (((bs l)[i]'hi).toNat = 123 ∨ ((bs l)[i]'hi).toNat = 125 ∨ ((bs l)[i]'hi).toNat = 59 ∨ ((bs l)[i]'hi).toNat = 44)) := by
    unfold isSgn at h3
    have := of_decide_eq_false h3
    exact this
  clear h3
  go_enter Tryz.func35, Tryz.ntmps35
  go_wp2_with (first
    | (go_at_call 67; refine (rletter_c l[i] _).mono ?_; rintro e w' ⟨rfl, rfl⟩; rw [h1])
    | (go_at_call 69; refine (rdigit_c l[i] _).mono ?_; rintro e w' ⟨rfl, rfl⟩; rw [h2]))
  all_goals first
    | (exfalso; have := H3.out; simp only [beq_iff_eq, beq_eq_false_iff_ne, ne_eq] at *; omega)
    | exact bodyPost_ret (v := .tuple #[.agg #[.int .u8 0, .string ⟨#[]⟩, .int .i64 0, .int .i64 0], .int .i64 4]) (by simp [results, Tryz.results35, go_sem]; try rfl) rfl ⟨rfl, (Below.refl _ _).alloc (Nat.le_refl _) _⟩
theorem rone_c (l : List UInt8) (i : Nat) (hi : i < l.length) (w : World) (hl : l.length ≤ 9223372036854775807) :
    Calls Tryz.prog 35 #[.string (bs l), .int .i64 (i : Int)] w (RetT w (oneF l i)) := by
  have hd := drop_next hi
  have li := runN_le isIns (l.drop i)
  have ld := runN_le isDig (l.drop i)
  rw [List.length_drop] at li ld
  cases h1 : isLet l[i]
  · cases h2 : isDig l[i]
    · cases h3 : isSgn l[i]
      · rw [oneF_bad (by rw [hd]; exact fst1_x _ _ h1 h2 h3) (by decide)]; exact rone_x l i hi w hl h1 h2 h3
      · rw [oneF_ok (by rw [hd]; exact fst1_s _ _ h1 h2 h3)]; exact rone_s l i hi w hl h1 h2 h3
    · by_cases h3 : l[i].toNat = 48 ∧ 1 < runN isDig (l.drop i)
      · rw [oneF_bad (e := 4) (by rw [hd] at h3 ⊢; exact fst1_d0 _ _ h1 h2 h3.1 h3.2) (by decide)]
        exact rone_d0 l i hi w hl h1 h2 h3.1 _ rfl h3.2 (by omega)
      · by_cases h4 : 9 < runN isDig (l.drop i)
        · rw [oneF_bad (e := 3) (by rw [hd] at h3 h4 ⊢; exact fst1_dl _ _ h1 h2 h3 h4) (by decide)]
          exact rone_dl l i hi w hl h1 h2 (fun e => h3 ⟨e, by omega⟩) _ rfl h4 (by omega)
        · rw [oneF_ok (t := ⟨2, (l.drop i).take (runN isDig (l.drop i)), ((numV ((l.drop i).take (runN isDig (l.drop i))) : Nat) : Int), 0⟩) (by rw [hd] at h3 h4 ⊢; exact fst1_d _ _ h1 h2 h3 h4)]
          refine rone_d l i hi w hl h1 h2 _ rfl ?_ (by omega) (by omega)
          by_cases h5 : l[i].toNat = 48
          · right; omega
          · left; exact h5
  · by_cases h2 : 12 < runN isIns (l.drop i)
    · rw [oneF_bad (e := 3) (by rw [hd] at h2 ⊢; exact fst1_nl _ _ h1 h2) (by decide)]; exact rone_nl l i hi w hl h1 _ rfl h2 (by omega)
    · rw [oneF_ok (t := ⟨1, (l.drop i).take (runN isIns (l.drop i)), 0, 0⟩) (by rw [hd] at h2 ⊢; exact fst1_n _ _ h1 h2)]; exact rone_n l i hi w hl h1 _ rfl h2 (by omega)
end Go.Proofs.YtganlldidjbpiaaGreatDoor
