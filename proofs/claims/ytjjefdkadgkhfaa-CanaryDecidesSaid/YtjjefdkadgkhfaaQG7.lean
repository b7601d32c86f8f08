/- Canary, plain: what each decision of a run is. -/
import Derived.Test.YtjjefdkadgkhfaaQGp
import Derived.Test.YtjjefdkadgkhfaaK23
import Derived.Test.YtjjefdkadgkhfaaK26
set_option linter.unusedVariables false
namespace Go.Proofs.Ytjjefdkadgkhfaa

/-- What is known of decision i of a run with n decisions. -/
structure DecQ (R : Ro) (l : List Bool) (n i : Nat) (d : Dec) : Prop where
  le : i ≤ R.waves.length
  next : nextF R (l.take (cum R i)) = (d, 0)
  first : i = 0 → d.kind = 1
  go : 0 < i → (GoB R (cum R i) (failsN l (cum R i)) ↔ d.kind ≠ 2)
  wave : d.kind = 1 → i < R.waves.length ∧ d.hosts = hostsOf R (cum R i) (cum R (i + 1)) ∧ i + 1 < n
  last : d.kind ≠ 1 → i + 1 = n ∧ d.hosts = [] ∧ (d.kind = 2 ∨ d.kind = 3 ∧ cum R i = R.hosts.length)

theorem runD_pos (R : Ro) (l : List Bool) : ∀ k r, 0 < (runD R l r k).length
  | 0, r => by rw [runD]; simp
  | k + 1, r => by rw [runD]; simp

theorem runD_q {R : Ro} (h : ValidR R) {l : List Bool} (hl : l.length = R.hosts.length) : ∀ (f r : Nat), r + f = R.waves.length → (0 < R.waves.length) →
    (∀ k, cum R r ≤ k → k ≤ R.hosts.length → nextW R (l.take k) 0 R.waves.length = nextW R (l.take k) r f) → (0 < r → GoB R (cum R r) (failsN l (cum R r))) →
    ∀ (i : Nat) (d : Dec), (runD R l r f)[i]? = some d → DecQ R l (r + (runD R l r f).length) (r + i) d
  | 0, r, hr, hw, hn, hg, i, d, hd => by
    rw [runD] at hd
    rw [runD]
    have hi : i = 0 := by
      rcases i with _ | i
      · rfl
      · simp at hd
    subst hi
    obtain rfl : (⟨3, []⟩ : Dec) = d := by simpa using hd
    have hc : cum R r = R.hosts.length := by rw [show r = R.waves.length by omega]; exact cum_last h
    have hlen : (l.take (cum R r)).length = cum R r := by rw [List.length_take]; omega
    refine ⟨by omega, ?_, fun e => by omega, fun _ => ⟨fun _ => by simp, fun _ => hg (by omega)⟩, fun e => absurd (show (3 : Nat) = 1 from e) (by decide), fun _ => ⟨by simp, rfl, .inr ⟨rfl, hc⟩⟩⟩
    unfold nextF
    rw [if_pos h, Nat.add_zero, if_neg (by omega), hn _ (Nat.le_refl _) (by omega), nextW_end]
  | f + 1, r, hr, hw, hn, hg, i, d, hd => by
    have hlt : r < R.waves.length := by omega
    obtain ⟨hw1, hw2, _⟩ := cum_succ h hlt
    have hle := cum_le h (r + 1)
    have hlen : ∀ k, k ≤ R.hosts.length → (l.take k).length = k := fun k hk => by rw [List.length_take]; omega
    rw [runD] at hd
    rw [runD]
    rcases i with _ | i
    · obtain rfl : (⟨1, hostsOf R (cum R r) (cum R (r + 1))⟩ : Dec) = d := by simpa using hd
      refine ⟨by omega, ?_, fun _ => rfl, fun hp => ⟨fun _ => by simp, fun _ => hg (by omega)⟩, fun _ => ⟨by omega, rfl, ?_⟩, fun e => absurd rfl e⟩
      · unfold nextF
        rw [if_pos h, if_neg (by rw [hlen _ (by rw [Nat.add_zero]; omega), Nat.add_zero]; omega), Nat.add_zero, hn _ (Nat.le_refl _) (by omega), nextW_wave (hlen _ (by omega))]
      · rw [List.length_cons]
        split
        · have := runD_pos R l f (r + 1); omega
        · simp
    · rw [List.getElem?_cons_succ] at hd
      by_cases hgo : GoB R (cum R (r + 1)) (failsN l (cum R (r + 1)))
      · rw [if_pos hgo] at hd ⊢
        have ih := runD_q h hl f (r + 1) (by omega) hw (fun k hk1 hk2 => ?_) (fun _ => hgo) i d hd
        · rw [List.length_cons]
          rw [show r + (i + 1) = r + 1 + i by omega, show r + ((runD R l (r + 1) f).length + 1) = r + 1 + (runD R l (r + 1) f).length by omega]
          exact ih
        · rw [hn k (by omega) hk2]
          exact nextW_go (by rw [hlen k hk2]; omega) (by rw [hlen k hk2]; omega) (by rw [failsN_take hk1]; exact hgo)
      · rw [if_neg hgo] at hd ⊢
        have hi : i = 0 := by
          rcases i with _ | i
          · rfl
          · simp at hd
        subst hi
        obtain rfl : (⟨2, []⟩ : Dec) = d := by simpa using hd
        refine ⟨by omega, ?_, fun e => by omega, fun _ => ⟨fun h2 => absurd (show GoB R (cum R (r + 1)) (failsN l (cum R (r + 1))) from h2) hgo, fun e => absurd rfl e⟩, fun e => absurd (show (2 : Nat) = 1 from e) (by decide), fun _ => ⟨by simp, rfl, .inl rfl⟩⟩
        unfold nextF
        rw [show r + (0 + 1) = r + 1 by omega, if_pos h, if_neg (by rw [hlen _ (by omega)]; omega), hn _ (by omega) (by omega)]
        exact nextW_stop (by rw [hlen _ (by omega)]; omega) (by rw [hlen _ (by omega)]; omega) (by rw [failsN_take (Nat.le_refl _)]; exact hgo) (by rw [hlen _ (by omega)]; omega)
theorem waves_pos {R : Ro} (h : ValidR R) : 0 < R.waves.length := by
  have h1 := h.2.2.2.2.2.1
  have h2 := h.1
  rcases hw : R.waves with _ | ⟨x, y⟩
  · rw [hw] at h1; simp at h1; omega
  · simp
/-- Every decision of a run. -/
theorem run_q {R : Ro} (h : ValidR R) {l : List Bool} (hl : l.length = R.hosts.length) {i : Nat} {d : Dec} (hd : (runD R l 0 R.waves.length)[i]? = some d) : DecQ R l (runD R l 0 R.waves.length).length i d := by
  have := runD_q h hl R.waves.length 0 (by omega) (waves_pos h) (fun k _ _ => rfl) (fun e => by omega) i d hd
  rw [Nat.zero_add, Nat.zero_add] at this
  exact this
end Go.Proofs.Ytjjefdkadgkhfaa
