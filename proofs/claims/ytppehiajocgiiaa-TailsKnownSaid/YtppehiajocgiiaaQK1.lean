/- Plain facts for TailsKnown: errors, and values at some numbers. -/
import Derived.Test.YtppehiajocgiiaaQTq
import Derived.Test.YtppehiajocgiiaaQDec
set_option linter.unusedVariables false
namespace Go.Proofs.Ytppehiajocgiiaa

theorem chooseF_bad {n k : Int} (h : trialsB n k n = false) : chooseF n k = ([], 2) := by unfold chooseF; rw [if_neg (by simp [h])]
theorem exactlyF_bad {n k : Int} {x : F} (hr : rateE x = 0) (h : trialsB n k n = false) : exactlyF n k x = (F0, 2) := by
  unfold exactlyF; rw [h, checkE_false hr, if_neg (by omega)]
theorem exactlyF_err {n k r : Int} {x : F} (hr : rateE x = r) (h : r ≠ 0) : exactlyF n k x = (F0, r) := by
  unfold exactlyF; rw [checkE_bad (by rw [hr]; exact h), hr, if_neg h]
theorem tailF_bad {n k : Int} {x : F} (hr : rateE x = 0) (h : trialsB n k (IntKind.i64.wrap (n + 1)) = false) : tailF n k x = (F0, 2) := by
  unfold tailF; rw [h, checkE_false hr, if_neg (by omega)]
theorem tailF_err {n k r : Int} {x : F} (hr : rateE x = r) (h : r ≠ 0) : tailF n k x = (F0, r) := by
  unfold tailF; rw [checkE_bad (by rw [hr]; exact h), hr, if_neg h]
theorem upperF_bad {n k den : Int} {x : F} {r : Int × Int} (hf : fracE x = 0) (h : ¬ (trialsB n k (IntKind.i64.wrap (n + 1)) = true ∧ 1 ≤ den ∧ den ≤ 1000)) (hr : upperF n k x den r) : r = (0, 2) := by
  unfold upperF at hr; rwa [if_pos hf, if_neg h] at hr
theorem upperF_err {n k den e : Int} {x : F} {r : Int × Int} (hf : fracE x = e) (h : e ≠ 0) (hr : upperF n k x den r) : r = (0, e) := by
  unfold upperF at hr; rwa [hf, if_neg h] at hr
theorem critF_bad {n : Int} {x y : F} {r : Int × Int} (h : ¬ (checkE x (trialsB n 0 0) = 0 ∧ fracE y = 0)) (hr : critF n x y r) : r = (0, if checkE x (trialsB n 0 0) = 1 ∨ fracE y = 1 then 1 else 2) := by
  unfold critF at hr; rwa [if_neg h] at hr
theorem fracE_neg {a b : Nat} (h : Ok true a b) : fracE (fr true a b) = 2 := by
  rw [fracE_yes (validF_fr.2 h), if_pos (.inl rfl)]
theorem fracE_big {a b : Nat} (h : Ok false a b) (hlt : b < a) : fracE (fr false a b) = 2 := by
  rw [fracE_yes (validF_fr.2 h), if_pos]
  right
  show val (limbs b) < val (limbs a)
  rwa [val_limbs, val_limbs]
theorem fracE_zero_den : fracE F0 = 1 := by
  refine fracE_no fun h => ?_
  have := h.2.2.pos
  exact absurd this (by simp [F0, val])
theorem fracE_gcd {a b : Nat} (h : Nat.gcd a b ≠ 1) : fracE (fr false a b) = 1 := by
  refine fracE_no fun hv => h (validF_fr.1 hv).gcd
theorem rate_of_frac {x : F} {e : Int} (h : fracE x = e) (h0 : e ≠ 0) : rateE x = e := by rw [rateE_bad (by rw [h]; exact h0), h]
theorem rateE_den {a b : Nat} (h : Ok false a b) (hab : a ≤ b) (hb : 1000 < b) : rateE (fr false a b) = 2 := by
  rw [rateE_good (fracE_ok h hab), if_pos]
  show 1000 < val (limbs b)
  rwa [val_limbs]
theorem ok01 : Ok false 0 1 := small_ok (by omega) (by omega) (by omega) (by decide)
theorem ok11' : Ok false 1 1 := small_ok (by omega) (by omega) (by omega) (by decide)
theorem ok181 : Ok false 1 81 := small_ok (by omega) (by omega) (by omega) (by decide)
theorem ok32 : Ok false 3 2 := small_ok (by omega) (by omega) (by omega) (by decide)
theorem okm12 : Ok true 1 2 := ⟨ok12.n32, ok12.d32, ok12.pos, ok12.gcd, fun h => by omega⟩
theorem ok11001 : Ok false 1 1001 := small_ok (by omega) (by omega) (by omega) (by decide)
theorem ok1000 : Ok false 1 1000 := small_ok (by omega) (by omega) (by omega) (by decide)
theorem ok999 : Ok false 999 1000 := small_ok (by omega) (by omega) (by omega) (by decide)
theorem k_up0 {r : Int × Int} (h : upperF 4 0 (fr false 1 2) 10 r) : r = (0, 0) := by
  obtain ⟨m, hm, rfl⟩ := upperF_val (n := 4) (k := 0) (den := 10) (by omega) (by omega) ok12 (by omega) (by omega) (by omega) h
  have h2 : UpR 4 0 1 2 10 0 := ⟨by omega, .inl rfl, .inr (by simp [UpB, tl_le, tl_gt, ex, ch])⟩
  rw [upR_uniq hm h2]; rfl
theorem k_up4 {r : Int × Int} (h : upperF 4 4 (fr false 1 2) 10 r) : r = (9, 0) := by
  obtain ⟨m, hm, rfl⟩ := upperF_val (n := 4) (k := 4) (den := 10) (by omega) (by omega) ok12 (by omega) (by omega) (by omega) h
  have h2 : UpR 4 4 1 2 10 9 := ⟨by omega, .inr (by simp [UpB, tl_le, tl_gt, ex, ch]), .inr (by simp [UpB, tl_le, tl_gt, ex, ch])⟩
  rw [upR_uniq hm h2]; rfl
theorem k_up5 {r : Int × Int} (h : upperF 4 5 (fr false 0 1) 10 r) : r = (0, 7) := by
  obtain ⟨m, hm, rfl⟩ := upperF_val (n := 4) (k := 5) (den := 10) (by omega) (by omega) ok01 (by omega) (by omega) (by omega) h
  have h2 : UpR 4 5 0 1 10 11 := ⟨by omega, .inr (by simp [UpB, tl_gt]), .inl rfl⟩
  rw [upR_uniq hm h2]; rfl
theorem k_crit4 {r : Int × Int} (h : critF 4 (fr false 1 3) (fr false 1 81) r) : r = (4, 0) := by
  obtain ⟨m, rfl, hm⟩ := critF_val (n := 4) ok13 (by omega) (by omega) (by omega) ok181 (by omega) h
  have h4 : CritR 4 1 (3 - 1) 1 81 4 := .inl ⟨3, by omega, by simp [Abv, tl_le, tl_gt, ex, ch], fun j h1 h2 => by
    obtain rfl : j = 4 := by omega
    simp [Abv, tl_le, tl_gt, ex, ch], rfl⟩
  rw [critR_uniq hm h4]; rfl
theorem k_crit5 {r : Int × Int} (h : critF 4 (fr false 1 3) (fr false 0 1) r) : r = (5, 0) := by
  obtain ⟨m, rfl, hm⟩ := critF_val (n := 4) ok13 (by omega) (by omega) (by omega) ok01 (by omega) h
  have h4 : CritR 4 1 (3 - 1) 0 1 5 := .inl ⟨4, by omega, by simp [Abv, tl_le, tl_gt, ex, ch], fun j h1 h2 => by omega, rfl⟩
  rw [critR_uniq hm h4]; rfl
theorem k_crit1 {r : Int × Int} (h : critF 4 (fr false 0 1) (fr false 0 1) r) : r = (1, 0) := by
  obtain ⟨m, rfl, hm⟩ := critF_val (n := 4) ok01 (by omega) (by omega) (by omega) ok01 (by omega) h
  have h4 : CritR 4 0 (1 - 0) 0 1 1 := .inl ⟨0, by omega, by simp [Abv, tl_le, tl_gt, ex, ch], fun j h1 h2 => by
    have : Abv 4 0 1 0 1 j → False := fun hA => by
      have := abv_anti (show 1 ≤ j by omega) hA
      simp [Abv, tl_le, tl_gt, ex, ch] at this
    exact this, rfl⟩
  rw [critR_uniq hm h4]; rfl
theorem k_crit0 {r : Int × Int} (h : critF 0 (fr false 1 2) (fr false 1 1) r) : r = (0, 0) := by
  obtain ⟨m, rfl, hm⟩ := critF_val (n := 0) ok12 (by omega) (by omega) (by omega) ok11' (by omega) h
  have h4 : CritR 0 1 (2 - 1) 1 1 0 := .inr ⟨fun j hj => by
    obtain rfl : j = 0 := by omega
    simp [Abv, tl_le, tl_gt, ex, ch], rfl⟩
  rw [critR_uniq hm h4]; rfl
end Go.Proofs.Ytppehiajocgiiaa
