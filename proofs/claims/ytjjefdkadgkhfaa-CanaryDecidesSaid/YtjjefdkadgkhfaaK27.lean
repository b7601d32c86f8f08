/- Arguments that are rollouts, or rows of bools.
   Canary, plain: sums over all lists of results, with weights a for a failure and c for a success.
   Canary, plain: the lists of results by their bits; when a run ends with a stop.
   Canary, plain: a greater rate never makes a stop less likely; with a rate of at most that of the rollout each wave stops with at most its bound. -/
import Derived.Test.YtjjefdkadgkhfaaK23
import Derived.Deep.Grids
import Derived.Deep.Strs
import Derived.Test.YtjjefdkadgkhfaaK20
set_option linter.unusedVariables false
namespace Go.Proofs.Ytjjefdkadgkhfaa
open Go.RowKit Go.ChangeShapes Go.WideShapes

theorem array8 {α : Type} {cs : Array α} (h : cs.size = 8) : ∃ c0 c1 c2 c3 c4 c5 c6 c7, cs = #[c0, c1, c2, c3, c4, c5, c6, c7] := by
  obtain ⟨l⟩ := cs
  match l, h with
  | [c0, c1, c2, c3, c4, c5, c6, c7], _ => exact ⟨c0, c1, c2, c3, c4, c5, c6, c7, rfl⟩
theorem cells_int : Try.prog.cellsOf 3 = 1 := by kernel_rfl
theorem cells_bool : Try.prog.cellsOf 4 = 1 := by kernel_rfl
theorem cells_ints : Try.prog.cellsOf 26 = 1 := by kernel_rfl
theorem cells_nat : Try.prog.cellsOf 28 = 1 := by kernel_rfl
theorem cells_rollout : Try.prog.cellsOf 32 = 8 := by kernel_rfl
theorem add_off {b off : Nat} (j : Nat) : (⟨b, off, none⟩ : Addr).add j = ⟨b, off + j, none⟩ := by unfold Addr.add; split <;> simp_all
theorem i64_in {n : Int} (h : (Lit.int .i64 n).wf = true) : In64 n := by
  have h1 : IntKind.i64.min = -9223372036854775808 := rfl
  have h2 : IntKind.i64.max = 9223372036854775807 := rfl
  simp [Lit.wf, h1, h2] at h
  unfold In64
  omega
set_option maxRecDepth 100000 in
theorem slI_of_arg {H : Type} {enc : TypeId × Value → H} {W : World} {n : Nat} {v : Value} {y : DataW H × List MemPlace} (h : DataW.trod enc Try.prog W 0 (fun _ => true) true n 26 [v] = some y) : ∃ l, SlI W v l := by
  rcases open_ints Try.underlying26 Try.underlying3 cells_int h with ⟨hc, _⟩ | ⟨a, len, cap, zs, hc, _, hl, hm, hz, _, hcell, hw⟩
  · obtain rfl : v = .slice none 0 0 := by simpa using hc
    exact ⟨[], SlI.nil W⟩
  · obtain rfl : v = .slice (some a) len cap := by simpa using hc
    simp at hz
    have hlen : ((zs.take len).map (Value.int .i64)).length = len := by simp; omega
    refine ⟨zs.take len, fun z hz' => i64_in (hw z (List.mem_of_mem_take hz')), some a, cap, by rw [hlen], by rw [hlen]; exact hl, by unfold maxLen at hm; exact hm, (fun h => by cases h), fun h0 => ?_⟩
    rw [hlen] at h0
    have hs : a.spot = none := by
      have := hcell 0 (by omega)
      simpa [Addr.add] using World.cell?_spot this
    obtain ⟨b, off, spot⟩ := a
    simp only at hs
    subst hs
    refine ⟨b, off, rfl, ?_, fun i c hi => ?_⟩
    · have := hcell 0 (by omega)
      rw [add_off] at this
      exact World.block_lt_of_cell? _ _ this
    · have hil : i < len := by
        rcases Nat.lt_or_ge i len with h | h
        · exact h
        · rw [List.getElem?_eq_none (by rw [hlen]; exact h)] at hi; cases hi
      have := hcell i (by omega)
      rw [add_off] at this
      rw [this, ← hi, List.getElem?_map, List.getElem?_take, if_pos hil]
      simp [List.getD, show i < zs.length by omega]
set_option maxRecDepth 100000 in
theorem open_bools_arg {H : Type} {enc : TypeId × Value → H} {W : World} {base : Nat} {v : Value} {d : DataW H} {p : List MemPlace} (hv : Value.okWide Try.prog W .any base 44 v) (h : DataW.Trod enc Try.prog W 0 (fun _ => true) true 44 v d p) : ∃ l, SlB W v l := by
  obtain ⟨a0, len0, cap0, rfl⟩ := okWide_slice Try.underlying44 hv
  obtain ⟨fuel, hf⟩ := h
  have hf : DataW.trod enc Try.prog W 0 (fun _ => true) true fuel 44 [.slice a0 len0 cap0] = some (d, p) := by simpa [Value.cells] using hf
  rcases Deep.open_bools Try.underlying44 Try.underlying4 cells_bool hf with ⟨hc, _⟩ | ⟨a, len, cap, B, hc, _, hl, hm, _, hcell⟩
  · obtain ⟨rfl, rfl, rfl⟩ : a0 = none ∧ len0 = 0 ∧ cap0 = 0 := by simpa using hc
    exact ⟨[], SlB.nil W⟩
  · obtain ⟨rfl, rfl, rfl⟩ : a0 = some a ∧ len0 = len ∧ cap0 = cap := by simpa using hc
    have hlen : (((List.range len0).map B).map Value.bool).length = len0 := by simp
    refine ⟨(List.range len0).map B, some a, cap0, by rw [hlen], by rw [hlen]; exact hl, by unfold maxLen at hm; exact hm, (fun h => by cases h), fun h0 => ?_⟩
    rw [hlen] at h0
    have hs : a.spot = none := by
      have := hcell 0 (by omega)
      simpa [Addr.add] using World.cell?_spot this
    obtain ⟨b, off, spot⟩ := a
    simp only at hs
    subst hs
    refine ⟨b, off, rfl, ?_, fun i c hi => ?_⟩
    · have := hcell 0 (by omega)
      rw [add_off] at this
      exact World.block_lt_of_cell? _ _ this
    · have hil : i < len0 := by
        rcases Nat.lt_or_ge i len0 with h | h
        · exact h
        · rw [List.getElem?_eq_none (by rw [hlen]; exact h)] at hi; cases hi
      have := hcell i (by omega)
      rw [add_off] at this
      rw [this, ← hi]
      simp [hil]
set_option maxRecDepth 100000 in
theorem ratio_of_cells {H : Type} {enc : TypeId × Value → H} {W : World} {n : Nat} {v0 v1 v2 : Value} {y : DataW H × List MemPlace} (h : DataW.trod enc Try.prog W 0 (fun _ => true) true n 30 [v0, v1, v2] = some y) : ∃ x, IsFA W (.agg #[v0, v1, v2]) x := by
  obtain ⟨y0, y1, y2, m, _, _, h0, h1, h2⟩ := Deep.trod_struct3 Try.underlying30 h
  simp [cells_bool, cells_nat] at h0 h1 h2
  obtain ⟨b, hb, _⟩ := DataW.trod_bool Try.underlying4 h0
  obtain rfl : v0 = .bool b := by simpa using hb
  obtain ⟨l1, hl1⟩ := slA_of_arg h1
  obtain ⟨l2, hl2⟩ := slA_of_arg h2
  exact ⟨⟨b, l1, l2⟩, v1, v2, rfl, hl1, hl2⟩
theorem agg3_inj {x0 x1 x2 y0 y1 y2 : Value} (h : Value.agg #[x0, x1, x2] = .agg #[y0, y1, y2]) : x0 = y0 ∧ x1 = y1 ∧ x2 = y2 := by
  have h := congrArg Array.toList (Value.agg.inj h)
  simpa using h
set_option maxRecDepth 100000 in
/-- An argument that is a rollout. -/
theorem open_rollout {H : Type} {enc : TypeId × Value → H} {W : World} {base : Nat} {v : Value} {d : DataW H} {p : List MemPlace} (hv : Value.okWide Try.prog W .any base 32 v) (h : DataW.Trod enc Try.prog W 0 (fun _ => true) true 32 v d p) : ∃ R, IsRA W v R := by
  obtain ⟨cs, rfl, hsz⟩ := okWide_struct Try.underlying32 hv
  obtain ⟨c0, c1, c2, c3, c4, c5, c6, c7, rfl⟩ := array8 (hsz.trans cells_rollout)
  obtain ⟨fuel, hf⟩ := h
  obtain ⟨y0, y1, y2, y3, n, _, _, h0, h1, h2, h3⟩ := Joins.trod_struct4 Try.underlying32 hf
  simp [Value.cells, cells_ints, cells_ratio] at h0 h1 h2 h3
  obtain ⟨l0, hl0⟩ := slI_of_arg h0
  obtain ⟨l1, hl1⟩ := slI_of_arg h1
  obtain ⟨x, xa, xb, ex, hx1, hx2⟩ := ratio_of_cells h2
  obtain ⟨y, ya, yb, ey, hy1, hy2⟩ := ratio_of_cells h3
  obtain ⟨rfl, rfl, rfl⟩ := agg3_inj ex
  obtain ⟨rfl, rfl, rfl⟩ := agg3_inj ey
  exact ⟨⟨l0, l1, x, y⟩, _, _, _, _, _, _, rfl, hl0, hl1, hx1, hx2, hy1, hy2⟩
end Go.Proofs.Ytjjefdkadgkhfaa

namespace Go.Proofs.Ytjjefdkadgkhfaa

/-- The sum of f over all lists of n results, each weighed. -/
def Ex (a c : Nat) : Nat → (List Bool → Nat) → Nat
  | 0, f => f []
  | n + 1, f => a * Ex a c n (fun l => f (true :: l)) + c * Ex a c n (fun l => f (false :: l))
theorem Ex_congr {a c : Nat} : ∀ {n : Nat} {f g : List Bool → Nat}, (∀ l, l.length = n → f l = g l) → Ex a c n f = Ex a c n g
  | 0, f, g, h => h [] rfl
  | n + 1, f, g, h => by
    rw [Ex, Ex, Ex_congr (n := n) (f := fun l => f (true :: l)) (g := fun l => g (true :: l)) (fun l hl => h _ (by simp [hl])), Ex_congr (n := n) (f := fun l => f (false :: l)) (g := fun l => g (false :: l)) (fun l hl => h _ (by simp [hl]))]
theorem Ex_mono {a c : Nat} : ∀ {n : Nat} {f g : List Bool → Nat}, (∀ l, l.length = n → f l ≤ g l) → Ex a c n f ≤ Ex a c n g
  | 0, f, g, h => h [] rfl
  | n + 1, f, g, h => by
    rw [Ex, Ex]
    exact Nat.add_le_add (Nat.mul_le_mul_left _ (Ex_mono fun l hl => h _ (by simp [hl]))) (Nat.mul_le_mul_left _ (Ex_mono fun l hl => h _ (by simp [hl])))
theorem Ex_add (a c : Nat) : ∀ (n : Nat) (f g : List Bool → Nat), Ex a c n (fun l => f l + g l) = Ex a c n f + Ex a c n g
  | 0, f, g => rfl
  | n + 1, f, g => by
    rw [Ex, Ex, Ex, Ex_add a c n (fun l => f (true :: l)) (fun l => g (true :: l)), Ex_add a c n (fun l => f (false :: l)) (fun l => g (false :: l)), Nat.mul_add, Nat.mul_add]
    omega
theorem Ex_mul (a c k : Nat) : ∀ (n : Nat) (f : List Bool → Nat), Ex a c n (fun l => f l * k) = Ex a c n f * k
  | 0, f => rfl
  | n + 1, f => by
    rw [Ex, Ex, Ex_mul a c k n (fun l => f (true :: l)), Ex_mul a c k n (fun l => f (false :: l)), Nat.add_mul, Nat.mul_assoc, Nat.mul_assoc]
theorem Ex_zero (a c : Nat) : ∀ n, Ex a c n (fun _ => 0) = 0
  | 0 => rfl
  | n + 1 => by rw [Ex, Ex_zero a c n]; simp
theorem Ex_nil {a c n : Nat} {f : List Bool → Nat} (h : ∀ l, l.length = n → f l = 0) : Ex a c n f = 0 := by rw [Ex_congr h, Ex_zero]
theorem Ex_one (a c : Nat) : ∀ n, Ex a c n (fun _ => 1) = (a + c) ^ n
  | 0 => rfl
  | n + 1 => by rw [Ex, Ex_one a c n, ← Nat.add_mul, Nat.pow_succ, Nat.mul_comm]
theorem Ex_sm (a c n : Nat) (f : Nat → List Bool → Nat) : ∀ m, Ex a c n (fun l => sm m (fun i => f i l)) = sm m (fun i => Ex a c n (f i))
  | 0 => Ex_zero a c n
  | m + 1 => by
    rw [sm, ← Ex_sm a c n f m]
    exact Ex_add a c n (fun l => sm m (fun i => f i l)) (f m)
theorem Ex_append (a c : Nat) : ∀ (n w : Nat) (f : List Bool → Nat), Ex a c (n + w) f = Ex a c n (fun l => Ex a c w (fun l' => f (l ++ l')))
  | 0, w, f => by rw [Nat.zero_add]; rfl
  | n + 1, w, f => by
    rw [show n + 1 + w = (n + w) + 1 by omega, Ex, Ex, Ex_append a c n w (fun l => f (true :: l)), Ex_append a c n w (fun l => f (false :: l))]
    rfl
/-- How many failed. -/
def nT (l : List Bool) : Nat := l.count true
theorem nT_append (l l' : List Bool) : nT (l ++ l') = nT l + nT l' := List.count_append
theorem nT_le (l : List Bool) : nT l ≤ l.length := List.count_le_length
/-- Exactly k failures. -/
theorem Ex_count (a c : Nat) : ∀ n k, Ex a c n (fun l => if nT l = k then 1 else 0) = ex a c n k
  | 0, k => by
    show (if nT [] = k then 1 else 0) = ex a c 0 k
    unfold nT
    cases k with
    | zero => simp [ex, ch]
    | succ k => simp [ex, ch]
  | n + 1, k => by
    rw [Ex]
    cases k with
    | zero =>
      rw [ex_zero, ← Ex_count a c n 0, Ex_congr (g := fun _ => 0) (fun l _ => by unfold nT; simp), Ex_zero, Nat.mul_zero, Nat.zero_add]
      congr 1
    | succ k =>
      rw [ex_succ, ← Ex_count a c n k, ← Ex_count a c n (k + 1)]
      congr 1
      · congr 1
        exact Ex_congr fun l _ => by unfold nT; simp
section
variable (R : Ro)
/-- It has not stopped at the first r boundaries. -/
noncomputable def alive (l : List Bool) : Nat → Bool
  | 0 => true
  | r + 1 => alive l r && decide (failsN l (cum R (r + 1)) < mOf R (cum R (r + 1)))
end
theorem cum_mono {R : Ro} (h : ValidR R) {s r : Nat} (hs : s ≤ r) : cum R s ≤ cum R r := by
  induction r with
  | zero => rw [show s = 0 by omega]; exact Nat.le_refl _
  | succ r ih =>
    rcases Nat.lt_or_eq_of_le hs with h1 | h1
    · refine Nat.le_trans (ih (by omega)) ?_
      rcases Nat.lt_or_ge r R.waves.length with h2 | h2
      · have := cum_wv h h2; omega
      · unfold cum
        rw [List.take_of_length_le h2, List.take_of_length_le (by omega)]
        exact Nat.le_refl _
    · rw [h1]; exact Nat.le_refl _
theorem failsN_append {l l' : List Bool} {n : Nat} (h : n ≤ l.length) : failsN (l ++ l') n = failsN l n := by
  unfold failsN
  rw [List.take_append_of_le_length h]
theorem alive_append {R : Ro} (h : ValidR R) {l l' : List Bool} : ∀ {r : Nat}, cum R r ≤ l.length → alive R (l ++ l') r = alive R l r
  | 0, _ => rfl
  | r + 1, hl => by
    have := cum_mono h (show r ≤ r + 1 by omega)
    rw [alive, alive, alive_append h (r := r) (by omega), failsN_append hl]
theorem ind_sm {k m x : Nat} {e : Nat → Nat} (hk : k ≤ m) : sm (m + 1) (fun i => (if x = m - i then 1 else 0) * e i) = if x ≤ m then e (m - x) else 0 := by
  by_cases hx : x ≤ m
  · rw [if_pos hx, ← sm_at (x := e (m - x)) (t := m - x) (N := m + 1) (by omega)]
    refine sm_congr fun i hi => ?_
    by_cases h1 : x = m - i
    · rw [if_pos h1, if_pos (by omega), Nat.one_mul, show i = m - x by omega]
    · rw [if_neg h1, if_neg (by omega), Nat.zero_mul]
  · rw [if_neg hx]
    exact sm_zero fun i hi => by rw [if_neg (by omega), Nat.zero_mul]
theorem ex_far' (a c w : Nat) : ∀ j, w < j → ex a c w j = 0 := fun j hj => ex_gt hj
/-- What goes on behind r waves with k failures: all lists that are not stopped. -/
theorem gN_Ex {R : Ro} (h : ValidR R) (a c : Nat) : ∀ {r : Nat}, r ≤ R.waves.length → ∀ k, gN R a c r k = Ex a c (cum R r) (fun l => if alive R l r = true ∧ nT l = k then 1 else 0)
  | 0, _, k => by
    rw [cum_zero]
    show (if k = 0 then 1 else 0) = if alive R [] 0 = true ∧ nT [] = k then 1 else 0
    have h0 : nT [] = 0 := rfl
    rw [h0]
    by_cases hk : k = 0
    · subst hk; simp [alive]
    · rw [if_neg hk, if_neg (by omega)]
  | r + 1, hr, k => by
    have hw := cum_wv h (show r < R.waves.length by omega)
    have ih := gN_Ex h a c (r := r) (by omega)
    rw [gN_succ, nN, cvA_all (ex_far' a c (wv R r)), ← hw.1, Ex_append]
    have inner : ∀ l, l.length = cum R r → Ex a c (wv R r) (fun l' => if alive R (l ++ l') (r + 1) = true ∧ nT (l ++ l') = k then 1 else 0) =
        if k < mOf R (cum R (r + 1)) then (if alive R l r = true then (if nT l ≤ k then ex a c (wv R r) (k - nT l) else 0) else 0) else 0 := by
      intro l hl
      have e1 : ∀ l', l'.length = wv R r → (if alive R (l ++ l') (r + 1) = true ∧ nT (l ++ l') = k then 1 else 0) = if k < mOf R (cum R (r + 1)) ∧ alive R l r = true ∧ nT l ≤ k ∧ nT l' = k - nT l then 1 else 0 := by
        intro l' hl'
        have hf : failsN (l ++ l') (cum R (r + 1)) = nT (l ++ l') := by
          unfold failsN nT
          rw [List.take_of_length_le (by rw [List.length_append]; omega)]
        rw [alive, alive_append h (by omega), hf, nT_append]
        by_cases hA : alive R l r = true
        · by_cases hk : nT l + nT l' = k
          · rw [hk]
            by_cases hm : k < mOf R (cum R (r + 1))
            · rw [if_pos (by simp [hA, hm]), if_pos ⟨hm, hA, by omega, by omega⟩]
            · rw [if_neg (by simp [hm]), if_neg (fun hh => hm hh.1)]
          · rw [if_neg (fun hh => hk hh.2), if_neg (fun hh => hk (by omega))]
        · rw [if_neg (by simp [hA]), if_neg (fun hh => hA hh.2.1)]
      rw [Ex_congr e1]
      by_cases hm : k < mOf R (cum R (r + 1))
      · rw [if_pos hm]
        by_cases hA : alive R l r = true
        · rw [if_pos hA]
          by_cases hk : nT l ≤ k
          · rw [if_pos hk, ← Ex_count]
            exact Ex_congr fun l' _ => by simp [hm, hA, hk]
          · rw [if_neg hk]
            exact Ex_nil fun l' _ => if_neg fun hh => hk hh.2.2.1
        · rw [if_neg hA]
          exact Ex_nil fun l' _ => if_neg fun hh => hA hh.2.1
      · rw [if_neg hm]
        exact Ex_nil fun l' _ => if_neg fun hh => hm hh.1
    rw [Ex_congr inner]
    by_cases hm : k < mOf R (cum R (r + 1))
    · simp only [hw.1, hm, if_true]
      have e2 : sm (k + 1) (fun i => gN R a c r (k - i) * ex a c (wv R r) i) = sm (k + 1) (fun i => Ex a c (cum R r) (fun l => (if alive R l r = true ∧ nT l = k - i then 1 else 0) * ex a c (wv R r) i)) :=
        sm_congr fun i _ => by rw [ih, Ex_mul]
      rw [e2, ← Ex_sm a c (cum R r) (fun i l => (if alive R l r = true ∧ nT l = k - i then 1 else 0) * ex a c (wv R r) i)]
      refine Ex_congr fun l _ => ?_
      by_cases hA : alive R l r = true
      · simp only [hA, true_and, if_true]
        exact ind_sm (Nat.le_refl k)
      · rw [if_neg hA]
        exact sm_zero fun i _ => by rw [if_neg (fun hh => hA hh.1), Nat.zero_mul]
    · simp only [hw.1, hm, if_false]
      exact (Ex_zero a c (cum R r)).symm
theorem sm_ind {N x : Nat} (hx : x < N) : sm N (fun k => if x = k then 1 else 0) = 1 := by
  refine Eq.trans (sm_congr fun i _ => ?_) (sm_at (x := 1) hx)
  by_cases h : x = i
  · rw [if_pos h, if_pos h.symm]
  · rw [if_neg h, if_neg (fun e => h e.symm)]
/-- What has stopped behind r waves. -/
theorem gS_Ex {R : Ro} (h : ValidR R) (a c : Nat) {r : Nat} (hr : r ≤ R.waves.length) : gS R a c r = Ex a c (cum R r) (fun l => if alive R l r = true then 0 else 1) := by
  have h1 := gN_gS h a c hr
  have h2 : sm (cum R r + 1) (gN R a c r) = Ex a c (cum R r) (fun l => if alive R l r = true then 1 else 0) := by
    rw [sm_congr (fun k _ => gN_Ex h a c hr k), ← Ex_sm a c (cum R r) (fun k l => if alive R l r = true ∧ nT l = k then 1 else 0)]
    refine Ex_congr fun l hl => ?_
    by_cases hA : alive R l r = true
    · rw [if_pos hA]
      refine Eq.trans (sm_congr fun i _ => ?_) (sm_ind (N := cum R r + 1) (x := nT l) (by have := nT_le l; omega))
      by_cases he : nT l = i
      · rw [if_pos ⟨hA, he⟩, if_pos he]
      · rw [if_neg (fun hh => he hh.2), if_neg he]
    · rw [if_neg hA]
      exact sm_zero fun i _ => if_neg (fun hh => hA hh.1)
  have h3 : Ex a c (cum R r) (fun l => if alive R l r = true then 1 else 0) + Ex a c (cum R r) (fun l => if alive R l r = true then 0 else 1) = (a + c) ^ cum R r := by
    rw [← Ex_add, ← Ex_one]
    exact Ex_congr fun l _ => by
      by_cases hA : alive R l r = true
      · rw [if_pos hA, if_pos hA]
      · rw [if_neg hA, if_neg hA]
  omega
end Go.Proofs.Ytjjefdkadgkhfaa

namespace Go.Proofs.Ytjjefdkadgkhfaa

/-- The results that the bits of b are. -/
def bitsL (n b : Nat) : List Bool := (List.range n).map fun i => decide (b / 2 ^ i % 2 = 1)
theorem bitsL_len (n b : Nat) : (bitsL n b).length = n := by unfold bitsL; simp
theorem bitsL_succ (n b : Nat) : bitsL (n + 1) b = decide (b % 2 = 1) :: bitsL n (b / 2) := by
  unfold bitsL
  rw [List.range_succ_eq_map, List.map_cons, List.map_map]
  congr 1
  · simp
  · refine List.map_congr_left fun i _ => ?_
    show decide (b / 2 ^ (i + 1) % 2 = 1) = decide (b / 2 / 2 ^ i % 2 = 1)
    rw [Nat.div_div_eq_div_mul, Nat.pow_succ, Nat.mul_comm]
/-- What a list weighs. -/
def wt (a c : Nat) : List Bool → Nat
  | [] => 1
  | x :: l => (if x = true then a else c) * wt a c l
theorem wt_snoc (a c : Nat) (x : Bool) : ∀ l, wt a c (l ++ [x]) = wt a c l * (if x = true then a else c)
  | [] => by simp [wt]
  | y :: l => by rw [List.cons_append, wt, wt, wt_snoc a c x l, Nat.mul_assoc]
theorem wt_le (a c : Nat) : ∀ l, wt a c l ≤ (a + c) ^ l.length
  | [] => Nat.le_refl _
  | x :: l => by
    rw [wt, List.length_cons, Nat.pow_succ, Nat.mul_comm]
    refine Nat.mul_le_mul (wt_le a c l) ?_
    split <;> omega
theorem sm_double (g : Nat → Nat) : ∀ m, sm (2 * m) g = sm m (fun i => g (2 * i) + g (2 * i + 1))
  | 0 => rfl
  | m + 1 => by
    rw [show 2 * (m + 1) = 2 * m + 1 + 1 by omega, sm, sm, sm, sm_double g m, Nat.add_assoc]
theorem sm_bits (a c : Nat) : ∀ (n : Nat) (f : List Bool → Nat), sm (2 ^ n) (fun b => f (bitsL n b) * wt a c (bitsL n b)) = Ex a c n f
  | 0, f => by
    show sm 1 _ = f []
    simp [sm, bitsL, wt]
  | n + 1, f => by
    rw [Nat.pow_succ, Nat.mul_comm, sm_double, Ex, ← sm_bits a c n (fun l => f (true :: l)), ← sm_bits a c n (fun l => f (false :: l)), Nat.mul_comm a, Nat.mul_comm c, ← sm_mul, ← sm_mul, ← sm_add]
    refine sm_congr fun i _ => ?_
    rw [bitsL_succ, bitsL_succ, show 2 * i % 2 = 0 by omega, show (2 * i + 1) % 2 = 1 by omega, show 2 * i / 2 = i by omega, show (2 * i + 1) / 2 = i by omega]
    simp only [wt]
    simp
    rw [Nat.add_comm]
    congr 1
    · rw [Nat.mul_comm a, Nat.mul_assoc]
    · rw [Nat.mul_comm c, Nat.mul_assoc]
theorem runD_ne (R : Ro) (l : List Bool) (r k : Nat) : runD R l r k ≠ [] := by
  cases k <;> simp [runD]
/-- How a run ends. -/
theorem runD_last {R : Ro} (h : ValidR R) (l : List Bool) : ∀ (k r : Nat), r + k = R.waves.length → alive R l r = true → ((runD R l r k).getLast (runD_ne R l r k)) = if alive R l R.waves.length = true then ⟨3, []⟩ else ⟨2, []⟩
  | 0, r, hk, ha => by
    rw [show R.waves.length = r by omega, if_pos ha]
    rfl
  | k + 1, r, hk, ha => by
    have hg := go_iff h (n := cum R (r + 1)) (Nat.le_trans (cum_le h _) h.2.1) (failsN l (cum R (r + 1)))
    by_cases hgo : GoB R (cum R (r + 1)) (failsN l (cum R (r + 1)))
    · have ih := runD_last h l k (r + 1) (by omega) (by rw [alive, ha]; simp [hg.1 hgo])
      rw [← ih]
      simp only [runD, if_pos hgo]
      rw [List.getLast_cons (runD_ne R l (r + 1) k)]
    · have hdead : ∀ s, r < s → alive R l s = false := by
        intro s
        induction s with
        | zero => intro h; omega
        | succ s ih =>
          intro hs
          rw [alive]
          rcases Nat.lt_or_eq_of_le (Nat.le_of_lt_succ hs) with h1 | h1
          · rw [ih h1, Bool.false_and]
          · subst h1
            have : ¬ failsN l (cum R (r + 1)) < mOf R (cum R (r + 1)) := fun hh => hgo (hg.2 hh)
            simp [this]
      rw [if_neg (by rw [hdead _ (by omega)]; simp)]
      simp only [runD, if_neg hgo]
      rfl
theorem runF_last {R : Ro} (h : ValidR R) {l : List Bool} (hl : l.length = R.hosts.length) : ∃ ds, runF R l = (ds, 0) ∧ ∃ hne : ds ≠ [], ds.getLast hne = if alive R l R.waves.length = true then ⟨3, []⟩ else ⟨2, []⟩ := by
  refine ⟨_, by unfold runF; rw [if_pos h, if_pos hl], runD_ne R l 0 R.waves.length, runD_last h l R.waves.length 0 (by omega) rfl⟩
end Go.Proofs.Ytjjefdkadgkhfaa

namespace Go.Proofs.Ytjjefdkadgkhfaa

/-- Never less where one more fails. -/
def Inc : Nat → (List Bool → Nat) → Prop
  | 0, _ => True
  | n + 1, f => (∀ l, l.length = n → f (false :: l) ≤ f (true :: l)) ∧ Inc n (fun l => f (true :: l)) ∧ Inc n (fun l => f (false :: l))
theorem Ex_rise {a c a' c' : Nat} (h : a * (a' + c') ≤ a' * (a + c)) : ∀ {n : Nat} {f : List Bool → Nat}, Inc n f → Ex a c n f * (a' + c') ^ n ≤ Ex a' c' n f * (a + c) ^ n
  | 0, f, _ => Nat.le_refl _
  | n + 1, f, hf => by
    obtain ⟨h1, h2, h3⟩ := hf
    have iT := Ex_rise h h2
    have iF := Ex_rise h h3
    have hFT : Ex a' c' n (fun l => f (false :: l)) ≤ Ex a' c' n (fun l => f (true :: l)) := Ex_mono fun l hl => h1 l hl
    rw [Ex, Ex, Nat.pow_succ, Nat.pow_succ]
    generalize Ex a c n (fun l => f (true :: l)) = T at *
    generalize Ex a c n (fun l => f (false :: l)) = F at *
    generalize Ex a' c' n (fun l => f (true :: l)) = T' at *
    generalize Ex a' c' n (fun l => f (false :: l)) = F' at *
    generalize (a' + c') ^ n = P at *
    generalize (a + c) ^ n = Q at *
    obtain ⟨δ, hδ⟩ : ∃ δ, a' * (a + c) = a * (a' + c') + δ := ⟨_, (Nat.add_sub_cancel' h).symm⟩
    have hcc : c * (a' + c') = c' * (a + c) + δ := by
      have e1 : (a + c) * (a' + c') = a * (a' + c') + c * (a' + c') := Nat.add_mul _ _ _
      have e2 : (a + c) * (a' + c') = a' * (a + c) + c' * (a + c) := by rw [Nat.mul_comm, Nat.add_mul]
      omega
    have s1 : (a * T + c * F) * P ≤ (a * T' + c * F') * Q := by
      rw [Nat.add_mul, Nat.add_mul, Nat.mul_assoc, Nat.mul_assoc, Nat.mul_assoc, Nat.mul_assoc]
      exact Nat.add_le_add (Nat.mul_le_mul_left _ iT) (Nat.mul_le_mul_left _ iF)
    have s2 : (a * T' + c * F') * (a' + c') ≤ (a' * T' + c' * F') * (a + c) := by
      have e1 : (a * T' + c * F') * (a' + c') = a * (a' + c') * T' + c * (a' + c') * F' := by grind
      have e2 : (a' * T' + c' * F') * (a + c) = a' * (a + c) * T' + c' * (a + c) * F' := by grind
      rw [e1, e2, hδ, hcc, Nat.add_mul, Nat.add_mul]
      have := Nat.mul_le_mul_left δ hFT
      omega
    calc (a * T + c * F) * (P * (a' + c')) = (a * T + c * F) * P * (a' + c') := by rw [Nat.mul_assoc]
      _ ≤ (a * T' + c * F') * Q * (a' + c') := Nat.mul_le_mul_right _ s1
      _ = (a * T' + c * F') * (a' + c') * Q := by rw [Nat.mul_assoc, Nat.mul_comm Q, ← Nat.mul_assoc]
      _ ≤ (a' * T' + c' * F') * (a + c) * Q := Nat.mul_le_mul_right _ s2
      _ = (a' * T' + c' * F') * (Q * (a + c)) := by rw [Nat.mul_assoc, Nat.mul_comm (a + c)]
/-- The second list has failures wherever the first one has. -/
inductive Lf : List Bool → List Bool → Prop
  | nil : Lf [] []
  | cons {x y : Bool} {l l' : List Bool} : (x = true → y = true) → Lf l l' → Lf (x :: l) (y :: l')
theorem Lf.refl : ∀ l, Lf l l
  | [] => .nil
  | _ :: l => .cons (fun h => h) (Lf.refl l)
theorem Lf.take {l l' : List Bool} (h : Lf l l') : ∀ n, Lf (l.take n) (l'.take n) := by
  induction h with
  | nil => intro n; simp; exact .nil
  | cons hx hl ih =>
    intro n
    cases n with
    | zero => exact .nil
    | succ n => exact .cons hx (ih n)
theorem Lf.count {l l' : List Bool} (h : Lf l l') : l.count true ≤ l'.count true := by
  induction h with
  | nil => exact Nat.le_refl _
  | @cons x y l l' hx hl ih =>
    rw [List.count_cons, List.count_cons]
    cases x
    · simp; omega
    · rw [hx rfl]; simp; omega
theorem alive_Lf {R : Ro} {l l' : List Bool} (h : Lf l l') : ∀ {r : Nat}, alive R l' r = true → alive R l r = true
  | 0, _ => rfl
  | r + 1, ha => by
    rw [alive, Bool.and_eq_true] at ha ⊢
    refine ⟨alive_Lf h ha.1, ?_⟩
    have h1 : failsN l (cum R (r + 1)) ≤ failsN l' (cum R (r + 1)) := (h.take _).count
    have h2 := of_decide_eq_true ha.2
    exact decide_eq_true (by omega)
theorem inc_of : ∀ {n : Nat} {f : List Bool → Nat}, (∀ l l', Lf l l' → f l ≤ f l') → Inc n f
  | 0, _, _ => trivial
  | n + 1, f, h => ⟨fun l _ => h _ _ (.cons (fun h => by cases h) (Lf.refl l)), inc_of fun l l' hl => h _ _ (.cons (fun h => h) hl), inc_of fun l l' hl => h _ _ (.cons (fun h => h) hl)⟩
/-- The chance of a stop rises with the rate. -/
theorem gS_rise {R : Ro} (hv : ValidR R) {a c a' c' : Nat} (h : a * (a' + c') ≤ a' * (a + c)) {r : Nat} (hr : r ≤ R.waves.length) : gS R a c r * (a' + c') ^ cum R r ≤ gS R a' c' r * (a + c) ^ cum R r := by
  rw [gS_Ex hv a c hr, gS_Ex hv a' c' hr]
  refine Ex_rise h (inc_of fun l l' hl => ?_)
  by_cases h1 : alive R l r = true
  · rw [if_pos h1]; exact Nat.zero_le _
  · rw [if_neg h1, if_neg (fun h2 => h1 (alive_Lf hl h2))]
    exact Nat.le_refl _
section
variable {R : Ro} {r : Nat}
theorem gN_ex (hv : ValidR R) (a c : Nat) (hr : r ≤ R.waves.length) (k : Nat) : gN R a c r k ≤ ex a c (cum R r) k := by
  rw [gN_Ex hv a c hr k, ← Ex_count]
  refine Ex_mono fun l _ => ?_
  by_cases h : nT l = k
  · rw [if_pos h]; split <;> omega
  · rw [if_neg h, if_neg (fun hh => h hh.2)]; exact Nat.le_refl _
theorem ex_conv (a c n w k : Nat) : sm (k + 1) (fun i => ex a c n (k - i) * ex a c w i) = ex a c (n + w) k := by
  rw [← Ex_count a c (n + w) k, Ex_append]
  have e1 : sm (k + 1) (fun i => ex a c n (k - i) * ex a c w i) = sm (k + 1) (fun i => Ex a c n (fun l => (if nT l = k - i then 1 else 0) * ex a c w i)) :=
    sm_congr fun i _ => by rw [Ex_mul, Ex_count]
  rw [e1, ← Ex_sm a c n (fun i l => (if nT l = k - i then 1 else 0) * ex a c w i)]
  refine Ex_congr fun l _ => ?_
  rw [ind_sm (Nat.le_refl k)]
  by_cases hk : nT l ≤ k
  · rw [if_pos hk, ← Ex_count]
    refine Ex_congr fun l' _ => ?_
    rw [nT_append]
    by_cases h1 : nT l' = k - nT l
    · rw [if_pos h1, if_pos (by omega)]
    · rw [if_neg h1, if_neg (by omega)]
  · rw [if_neg hk]
    exact (Ex_nil fun l' _ => by rw [nT_append]; exact if_neg (by omega)).symm
theorem nN_ex (hv : ValidR R) (a c : Nat) (hr : r < R.waves.length) (k : Nat) : nN R a c r k ≤ ex a c (cum R (r + 1)) k := by
  rw [nN, cvA_all (ex_far' a c (wv R r)), ← (cum_wv hv hr).1, ← ex_conv]
  exact sm_le fun i _ => Nat.mul_le_mul_right _ (gN_ex hv a c (Nat.le_of_lt hr) _)
theorem sm_from (e : Nat → Nat) (m : Nat) : ∀ d M, m + d = M → sm M (fun k => if k < m then 0 else e k) = sm d (fun i => e (m + i))
  | 0, M, h => by
    rw [← h, Nat.add_zero]
    exact sm_zero fun i hi => if_pos hi
  | d + 1, M, h => by
    rw [← h, show m + (d + 1) = (m + d) + 1 by omega, sm, sm_from e m d (m + d) rfl, sm, if_neg (by omega)]
/-- At least m failures. -/
theorem tl_Ex (a c N m : Nat) : tl a c N m = Ex a c N (fun l => if m ≤ nT l then 1 else 0) := by
  rcases Nat.lt_or_ge (N + 1) m with h | h
  · rw [tl_gt (by omega)]
    exact (Ex_nil fun l hl => if_neg (by have := nT_le l; omega)).symm
  · rw [tl_sm a c N (N + 1 - m) m (by omega), sm_congr (fun i _ => (Ex_count a c N (m + i)).symm), ← Ex_sm a c N (fun i l => if nT l = m + i then 1 else 0)]
    refine Ex_congr fun l hl => ?_
    have hle := nT_le l
    by_cases hm : m ≤ nT l
    · rw [if_pos hm]
      refine Eq.trans (sm_congr fun i _ => ?_) (sm_at (N := N + 1 - m) (t := nT l - m) (x := 1) (by omega))
      by_cases h1 : nT l = m + i
      · rw [if_pos h1, if_pos (by omega)]
      · rw [if_neg h1, if_neg (by omega)]
    · rw [if_neg hm]
      exact sm_zero fun i _ => if_neg (by omega)
theorem tl_rise {a c a' c' N m : Nat} (h : a * (a' + c') ≤ a' * (a + c)) : tl a c N m * (a' + c') ^ N ≤ tl a' c' N m * (a + c) ^ N := by
  rw [tl_Ex, tl_Ex]
  refine Ex_rise h (inc_of fun l l' hl => ?_)
  have := hl.count
  have h1 : nT l ≤ nT l' := this
  by_cases h2 : m ≤ nT l
  · rw [if_pos h2, if_pos (by omega)]; exact Nat.le_refl _
  · rw [if_neg h2]; exact Nat.zero_le _
/-- The rate of the rollout itself, and its bound. -/
theorem tail_bound {α β x y a c N m : Nat} (hαβ : α ≤ β) (hβ : 0 < β) (h : a * β ≤ α * (a + c)) (hm : ¬ Abv N α (β - α) x y m) : tl a c N m * y ≤ x * (a + c) ^ N := by
  have hs : α + (β - α) = β := by omega
  have h1 : tl a c N m * β ^ N ≤ tl α (β - α) N m * (a + c) ^ N := by
    have := tl_rise (a := a) (c := c) (a' := α) (c' := β - α) (N := N) (m := m) (by rw [hs]; exact h)
    rw [hs] at this
    exact this
  have h2 : tl α (β - α) N m * y ≤ β ^ N * x := by
    unfold Abv at hm
    rw [hs] at hm
    omega
  have hp : 0 < β ^ N := Nat.pow_pos hβ
  refine Nat.le_of_mul_le_mul_right ?_ hp
  calc tl a c N m * y * β ^ N = tl a c N m * β ^ N * y := by rw [Nat.mul_assoc, Nat.mul_comm y, ← Nat.mul_assoc]
    _ ≤ tl α (β - α) N m * (a + c) ^ N * y := Nat.mul_le_mul_right _ h1
    _ = tl α (β - α) N m * y * (a + c) ^ N := by rw [Nat.mul_assoc, Nat.mul_comm _ y, ← Nat.mul_assoc]
    _ ≤ β ^ N * x * (a + c) ^ N := Nat.mul_le_mul_right _ h2
    _ = x * (a + c) ^ N * β ^ N := by rw [Nat.mul_comm (β ^ N), Nat.mul_assoc, Nat.mul_comm (β ^ N), ← Nat.mul_assoc]
/-- With a rate of at most that of the rollout, each wave stops with at most the bound. -/
theorem gS_bound (hv : ValidR R) {α β x y a c : Nat} (hrate : R.rate = fr false α β) (hbound : R.bound = fr false x y) (hαβ : α ≤ β) (hβ : 0 < β) (h : a * β ≤ α * (a + c)) : ∀ {r : Nat}, r ≤ R.waves.length → gS R a c r * y ≤ r * x * (a + c) ^ cum R r
  | 0, _ => by rw [show gS R a c 0 = 0 from rfl, Nat.zero_mul]; exact Nat.zero_le _
  | r + 1, hr => by
    have hw := cum_wv hv (show r < R.waves.length by omega)
    have ih := gS_bound hv hrate hbound hαβ hβ h (r := r) (by omega)
    have hN : cum R (r + 1) ≤ 16 := Nat.le_trans (cum_le hv _) hv.2.1
    obtain ⟨hm1, hm2⟩ := goB_mOf hv hN
    have hng : ¬ Abv (cum R (r + 1)) α (β - α) x y (mOf R (cum R (r + 1))) := fun hA => by
      have := (hm2 _).1 ((goB_fr hrate hbound _ _).2 hA)
      omega
    have htail := tail_bound (N := cum R (r + 1)) hαβ hβ h hng
    have hs : sm (cum R (r + 1) + 1) (fun k => if k < mOf R (cum R (r + 1)) then 0 else nN R a c r k) ≤ tl a c (cum R (r + 1)) (mOf R (cum R (r + 1))) := by
      rw [tl_sm a c (cum R (r + 1)) (cum R (r + 1) + 1 - mOf R (cum R (r + 1))) (mOf R (cum R (r + 1))) (by omega), ← sm_from (ex a c (cum R (r + 1))) (mOf R (cum R (r + 1))) _ (cum R (r + 1) + 1) (by omega)]
      refine sm_le fun i _ => ?_
      show (if i < mOf R (cum R (r + 1)) then 0 else nN R a c r i) ≤ if i < mOf R (cum R (r + 1)) then 0 else ex a c (cum R (r + 1)) i
      split
      · exact Nat.le_refl _
      · exact nN_ex hv a c (by omega) i
    rw [gS, Nat.add_mul]
    have e1 : gS R a c r * (a + c) ^ wv R r * y ≤ r * x * (a + c) ^ cum R (r + 1) := by
      rw [← hw.1, Nat.pow_add, Nat.mul_assoc, Nat.mul_comm _ y, ← Nat.mul_assoc, ← Nat.mul_assoc]
      exact Nat.mul_le_mul_right _ ih
    have e2 := Nat.mul_le_mul_right y hs
    have e3 : (r + 1) * x * (a + c) ^ cum R (r + 1) = r * x * (a + c) ^ cum R (r + 1) + x * (a + c) ^ cum R (r + 1) := by
      rw [Nat.add_mul, Nat.one_mul, Nat.add_mul]
    omega
end
end Go.Proofs.Ytjjefdkadgkhfaa
