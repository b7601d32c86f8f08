/- CanaryKnown, plain: what the package returns at its examples, and which rollouts are odd.
   How a law's statement follows from its walk: the arguments read as they did where nothing below the heap's old size has turned.
   Fractions that come in as arguments: their rows may lie in memory of whatever type. What the statements' own() makes of them.
   Memory words, more: a map from ints to fractions.
   Walks of package canary: the closure of Chance that puts an outcome to what has stopped or to what goes on. -/
import Derived.Test.YtebmegodeglobaaK21
import Derived.Test.YtebmegodeglobaaK02
import Derived.Test.YtebmegodeglobaaRows
import Derived.ProofKit
import Derived.OpenShut
import Derived.WideKeyArgs
import Derived.Test.YtebmegodeglobaaK18
import Derived.Lib.SmallJoins
import Derived.Test.YtebmegodeglobaaK19
import Derived.Maps.Own
import Derived.Maps.OwnSet
import Derived.Maps.Views
import Derived.Test.YtebmegodeglobaaK09
import Derived.Maps.OwnOps
set_option linter.unusedVariables false
namespace Go.Proofs.Ytebmegodeglobaa

theorem go1_R0 (k : Nat) : GoB R0 1 k ↔ k < 2 := by rw [go_iff v_R0 (by omega), m1_R0]
theorem go3_R0 (k : Nat) : GoB R0 3 k ↔ k < 3 := by rw [go_iff v_R0 (by omega), m3_R0]
theorem go5_R0 (k : Nat) : GoB R0 5 k ↔ k < 4 := by rw [go_iff v_R0 (by omega), m5_R0]
/-- What Next returns at the example. -/
def exN (l : List Bool) : Dec × Int :=
  if 5 < l.length then (⟨0, []⟩, 2) else
  if l.length = 0 then (⟨1, [4]⟩, 0) else
  if failsN l 1 < 2 then
    if l.length = 1 then (⟨1, [2, 7]⟩, 0) else if l.length < 3 then (⟨0, []⟩, 8) else
    if failsN l 3 < 3 then
      if l.length = 3 then (⟨1, [1, 0]⟩, 0) else if l.length < 5 then (⟨0, []⟩, 8) else
      if failsN l 5 < 4 then (⟨3, []⟩, 0) else (⟨2, []⟩, 0)
    else if 3 < l.length then (⟨0, []⟩, 8) else (⟨2, []⟩, 0)
  else if 1 < l.length then (⟨0, []⟩, 8) else (⟨2, []⟩, 0)
theorem next_R0 (l : List Bool) : nextF R0 l = exN l := by
  unfold nextF exN
  rw [if_pos v_R0]
  show (if 5 < l.length then _ else nextW R0 l 0 3) = _
  split
  · rfl
  · rename_i h5
    have h1 : hostsOf R0 0 1 = [4] := rfl
    have h2 : hostsOf R0 1 3 = [2, 7] := rfl
    have h3 : hostsOf R0 3 5 = [1, 0] := rfl
    simp only [nextW, c0_R0, c1_R0, c2_R0, c3_R0, go1_R0, go3_R0, go5_R0, h1, h2, h3, Nat.zero_add, Nat.reduceAdd, if_neg h5]
    by_cases e0 : l.length = 0
    · rw [if_pos e0, if_pos e0]
    · rw [if_neg e0, if_neg e0, if_neg (by omega)]
theorem kn0 : nextF R0 [] = (⟨1, [4]⟩, 0) := by rw [next_R0]; rfl
theorem kn1 : nextF R0 [true, false] = (⟨0, []⟩, 8) := by rw [next_R0]; rfl
theorem kn2 : nextF R0 [true, true, true] = (⟨2, []⟩, 0) := by rw [next_R0]; rfl
theorem kn3 : nextF R0 [true, true, true, false, false] = (⟨0, []⟩, 8) := by rw [next_R0]; rfl
theorem kn4 : nextF R0 [true, true, true, false] = (⟨0, []⟩, 8) := by rw [next_R0]; rfl
theorem kn5 : nextF R0 [false, true, true, true, true] = (⟨2, []⟩, 0) := by rw [next_R0]; rfl
theorem kn6 : nextF R0 [false, true, true, false, true] = (⟨3, []⟩, 0) := by rw [next_R0]; rfl
theorem kn7 : nextF R0 [false, false, false, false, false, false] = (⟨0, []⟩, 2) := by rw [next_R0]; rfl
theorem kr4 : runF R0 [false, false, false, false] = ([], 2) := by unfold runF; rw [if_pos v_R0, if_neg (by decide)]
theorem kr6 : runF R0 [false, false, false, false, false, false] = ([], 2) := by unfold runF; rw [if_pos v_R0, if_neg (by decide)]

/-- The odd rollouts. -/
noncomputable def oddR (q : F) : List Ro := [⟨[], [], F0, F0⟩, ⟨[0], [], q, q⟩, ⟨[0], [1], q, F0⟩, ⟨[0], [1], F0, q⟩, ⟨[16], [1], q, q⟩, ⟨[-1], [1], q, q⟩, ⟨[3, 3], [2], q, q⟩, ⟨[0], [0, 1], q, q⟩, ⟨[0], [2, -1], q, q⟩, ⟨[0, 1], [1], q, q⟩,
  ⟨List.replicate 17 0, [17], q, q⟩, ⟨[0], [1], fr false 5 4, q⟩, ⟨[0], [1], fr false 1 1001, q⟩, ⟨[0], [1], q, fr true 1 4⟩]
theorem rate_F0 : rateE F0 = 1 := by
  have : fracE F0 = 1 := fracE_no (fun h => by
    have := h.2.2.pos
    simp [F0, val] at this)
  rw [rateE_bad (by omega), this]
theorem rate_big {a b : Nat} (h : Ok false a b) (hab : b < a) : rateE (fr false a b) = 2 := by
  have hf : fracE (fr false a b) = 2 := by
    rw [fracE_yes (validF_fr.2 h), if_pos (.inr (by show val (limbs b) < val (limbs a); rw [val_limbs, val_limbs]; exact hab))]
  rw [rateE_bad (by omega), hf]
theorem rate_fine {a b : Nat} (h : Ok false a b) (hab : a ≤ b) (hb : 1000 < b) : rateE (fr false a b) = 2 := by
  rw [rateE_good (fracE_ok h hab), if_pos (by show 1000 < val (limbs b); rw [val_limbs]; exact hb)]
theorem frac_neg {a b : Nat} (h : Ok true a b) : fracE (fr true a b) = 2 := by
  rw [fracE_yes (validF_fr.2 h), if_pos (.inl rfl)]
theorem frac_F0 : fracE F0 = 1 := fracE_no (fun h => by
    have := h.2.2.pos
    simp [F0, val] at this)
theorem ok54 : Ok false 5 4 := small_ok (by omega) (by omega) (by omega) (by decide)
theorem ok32 : Ok false 3 2 := small_ok (by omega) (by omega) (by omega) (by decide)
theorem okn14 : Ok true 1 4 := ⟨Nat.le_trans (limbs_len_lt (k := 1) (by omega)) (by omega), Nat.le_trans (limbs_len_lt (k := 1) (by omega)) (by omega), by omega, by decide, by omega⟩
theorem kc0 : chanceF R0 F0 = (F0, 1) := by unfold chanceF; rw [if_pos (.inr rate_F0)]
theorem kc32 : chanceF R0 (fr false 3 2) = (F0, 2) := by
  unfold chanceF
  rw [rate_big ok32 (by omega), if_neg (by rintro (h | h); exact h v_R0; revert h; decide), if_neg (by decide)]
theorem kcfine (h : Ok false 1 1001) : chanceF R0 (fr false 1 1001) = (F0, 2) := by
  unfold chanceF
  rw [rate_fine h (by omega) (by omega), if_neg (by rintro (h | h); exact h v_R0; revert h; decide), if_neg (by decide)]
theorem odd_bad (hfine : Ok false 1 1001) : ∀ R ∈ oddR (fr false 1 4), ¬ ValidR R := by
  intro R hR h
  unfold oddR at hR
  simp only [List.mem_cons, List.not_mem_nil, or_false] at hR
  rcases hR with rfl | rfl | rfl | rfl | rfl | rfl | rfl | rfl | rfl | rfl | rfl | rfl | rfl | rfl
  · exact absurd h.1 (by decide)
  · exact absurd h.2.2.2.2.2.1 (by decide)
  · have := h.2.2.2.2.2.2.2; rw [show fracE F0 = 1 from frac_F0] at this; omega
  · have := h.2.2.2.2.2.2.1; rw [show rateE F0 = 1 from rate_F0] at this; omega
  · exact absurd h.2.2.1 (by decide)
  · exact absurd h.2.2.1 (by decide)
  · exact absurd h.2.2.2.1 (by decide)
  · exact absurd h.2.2.2.2.1 (by decide)
  · exact absurd h.2.2.2.2.1 (by decide)
  · exact absurd h.2.2.2.2.2.1 (by decide)
  · exact absurd h.2.1 (by decide)
  · have := h.2.2.2.2.2.2.1; rw [show rateE (fr false 5 4) = 2 from rate_big ok54 (by omega)] at this; omega
  · have := h.2.2.2.2.2.2.1; rw [show rateE (fr false 1 1001) = 2 from rate_fine hfine (by omega) (by omega)] at this; omega
  · have := h.2.2.2.2.2.2.2; rw [show fracE (fr true 1 4) = 2 from frac_neg okn14] at this; omega
theorem ok_fine : Ok false 1 1001 := small_ok (by omega) (by omega) (by omega) (by decide)
theorem ok14r : rateE (fr false 1 4) = 0 := rateE_ok ok14 (by omega) (by omega)
theorem ok01 : Ok false 0 1 := small_ok (by omega) (by omega) (by omega) (by decide)
theorem ok11 : Ok false 1 1 := small_ok (by omega) (by omega) (by omega) (by decide)
/-- It stops after the first wave, whatever happens. -/
def RA : Ro := ⟨[3, 9], [1, 1], fr false 1 4, fr false 1 1⟩
/-- It never stops but for what cannot happen. -/
def RN : Ro := ⟨[3, 9], [1, 1], fr false 1 4, fr false 0 1⟩
/-- Nothing fails. -/
def RZ : Ro := ⟨[3, 9], [1, 1], fr false 0 1, fr false 0 1⟩
theorem v_RA : ValidR RA := ⟨by decide, by decide, by decide, by decide, by decide, by decide, ok14r, fracE_ok ok11 (by omega)⟩
theorem v_RN : ValidR RN := ⟨by decide, by decide, by decide, by decide, by decide, by decide, ok14r, fracE_ok ok01 (by omega)⟩
theorem v_RZ : ValidR RZ := ⟨by decide, by decide, by decide, by decide, by decide, by decide, rateE_ok ok01 (by omega) (by omega), fracE_ok ok01 (by omega)⟩
theorem g_RA (n k : Nat) : GoB RA n k ↔ Abv n 1 3 1 1 k := goB_fr (a := 1) (b := 4) (x := 1) (y := 1) rfl rfl n k
theorem g_RN (n k : Nat) : GoB RN n k ↔ Abv n 1 3 0 1 k := goB_fr (a := 1) (b := 4) (x := 0) (y := 1) rfl rfl n k
theorem g_RZ (n k : Nat) : GoB RZ n k ↔ Abv n 0 1 0 1 k := goB_fr (a := 0) (b := 1) (x := 0) (y := 1) rfl rfl n k
theorem m1_RA : mOf RA 1 = 0 := mOf_is (by omega) (.inl rfl) (fun h => by have := (g_RA _ _).1 h; simp [Abv, tl_all] at this)
theorem m2_RA : mOf RA 2 = 0 := mOf_is (by omega) (.inl rfl) (fun h => by have := (g_RA _ _).1 h; simp [Abv, tl_all] at this)
theorem m1_RN : mOf RN 1 = 2 := mOf_is (by omega) (.inr ((g_RN _ _).2 (by simp [Abv, tl_le, tl_gt, ex, ch]))) (fun h => by have := (g_RN _ _).1 h; simp [Abv, tl_gt] at this)
theorem m2_RN : mOf RN 2 = 3 := mOf_is (by omega) (.inr ((g_RN _ _).2 (by simp [Abv, tl_le, tl_gt, ex, ch]))) (fun h => by have := (g_RN _ _).1 h; simp [Abv, tl_gt] at this)
theorem m1_RZ : mOf RZ 1 = 1 := mOf_is (by omega) (.inr ((g_RZ _ _).2 (by simp [Abv, tl_all]))) (fun h => by have := (g_RZ _ _).1 h; simp [Abv, tl_le, tl_gt, ex, ch] at this)
theorem m2_RZ : mOf RZ 2 = 1 := mOf_is (by omega) (.inr ((g_RZ _ _).2 (by simp [Abv, tl_all]))) (fun h => by have := (g_RZ _ _).1 h; simp [Abv, tl_le, tl_gt, ex, ch] at this)
theorem al_RA : allowedF RA = ([-1, -1], 0) := by
  unfold allowedF
  rw [if_pos v_RA]
  show (allowedL RA 2, 0) = _
  unfold allowedL
  simp only [List.range_succ, List.range_zero, List.nil_append, List.map_append, List.map_cons, List.map_nil, show cum RA (0 + 1) = 1 from rfl, show cum RA (1 + 1) = 2 from rfl, m1_RA, m2_RA]
  rfl
theorem al_RN : allowedF RN = ([1, 2], 0) := by
  unfold allowedF
  rw [if_pos v_RN]
  show (allowedL RN 2, 0) = _
  unfold allowedL
  simp only [List.range_succ, List.range_zero, List.nil_append, List.map_append, List.map_cons, List.map_nil, show cum RN (0 + 1) = 1 from rfl, show cum RN (1 + 1) = 2 from rfl, m1_RN, m2_RN]
  rfl
theorem al_RZ : allowedF RZ = ([0, 0], 0) := by
  unfold allowedF
  rw [if_pos v_RZ]
  show (allowedL RZ 2, 0) = _
  unfold allowedL
  simp only [List.range_succ, List.range_zero, List.nil_append, List.map_append, List.map_cons, List.map_nil, show cum RZ (0 + 1) = 1 from rfl, show cum RZ (1 + 1) = 2 from rfl, m1_RZ, m2_RZ]
  rfl
theorem c0_RA : cum RA 0 = 0 := rfl
theorem c1_RA : cum RA 1 = 1 := rfl
theorem c2_RA : cum RA 2 = 2 := rfl
theorem c0_RN : cum RN 0 = 0 := rfl
theorem c1_RN : cum RN 1 = 1 := rfl
theorem c2_RN : cum RN 2 = 2 := rfl
theorem gS_RA : gS RA 0 1 2 = 1 := by
  simp [gS, nN, cvA, sm, gN, wv, c0_RA, c1_RA, c2_RA, m1_RA, m2_RA, ex, ch]
theorem gS_RN : gS RN 1 0 2 = 0 := by
  simp [gS, nN, cvA, sm, gN, wv, c0_RN, c1_RN, c2_RN, m1_RN, m2_RN, ex, ch]
theorem chance_RA : chanceF RA (fr false 0 1) = (fr false 1 1, 0) := by
  have hr : rateE (fr false 0 1) = 0 := rateE_ok ok01 (by omega) (by omega)
  unfold chanceF
  rw [if_neg (by rw [hr]; rintro (h | h); exact h v_RA; omega), if_pos hr]
  show (FQ (gS RA (val (limbs 0)) (val (limbs 1) - val (limbs 0)) 2) (val (limbs 1) ^ cum RA 2), 0) = _
  rw [val_limbs, val_limbs, gS_RA, c2_RA]
  rw [show FQ 1 (1 ^ 2) = fr false 1 1 from (rep_of_ok ok11).fst]
theorem chance_RN : chanceF RN (fr false 1 1) = (fr false 0 1, 0) := by
  have hr : rateE (fr false 1 1) = 0 := rateE_ok ok11 (by omega) (by omega)
  unfold chanceF
  rw [if_neg (by rw [hr]; rintro (h | h); exact h v_RN; omega), if_pos hr]
  show (FQ (gS RN (val (limbs 1)) (val (limbs 1) - val (limbs 1)) 2) (val (limbs 1) ^ cum RN 2), 0) = _
  rw [val_limbs, gS_RN, c2_RN]
  rw [show FQ 0 (1 ^ 2) = fr false 0 1 from (rep_of_ok ok01).fst]
end Go.Proofs.Ytebmegodeglobaa

namespace Go.Proofs.Ytebmegodeglobaa
open Go.ChangeShapes Go.WideShapes Go.ChangeAt Go.RowKit

theorem law_own : ownKnob Try.prog.godebug = none := by kernel_rfl
theorem law_laid : laidOutB Try.prog = true := by kernel_rfl

theorem trodAll_stays {H : Type} {enc : TypeId × Value → H} {P : Program} (hl : laidOutB P = true) {W W' : World} {sp' : Nat → Bool} : ∀ {ts : List TypeId} {vs : List Value} {ds : List (DataW H)} {ps : List MemPlace},
    (∀ t ∈ ts, P.readableRec t = true ∧ t < P.types.size) → DataW.TrodAll enc P W 0 (fun _ => true) true ts vs ds ps → (∀ p ∈ ps, W.sameAt W' p) → (∀ p ∈ ps, sp' p.block = true) → DataW.TrodAll enc P W' 0 sp' true ts vs ds ps
  | [], vs, ds, ps, _, h, _, _ => by
    obtain ⟨rfl, rfl, rfl⟩ := trodAll_nil h
    exact trodAll_mk0
  | t :: ts, vs, ds, ps, hr, h, h1, h2 => by
    obtain ⟨v, vs', d, ds', p, q, rfl, rfl, rfl, hv, hrest⟩ := trodAll_cons h
    obtain ⟨r1, r2⟩ := hr t (List.mem_cons.2 (.inl rfl))
    exact trodAll_cons_mk (WideElems.Trod_stays hl r1 r2 hv (fun x hx => h1 x (List.mem_append_left _ hx)) (fun x hx => h2 x (List.mem_append_left _ hx)))
      (trodAll_stays hl (fun t ht => hr t (List.mem_cons.2 (.inr ht))) hrest (fun x hx => h1 x (List.mem_append_right _ hx)) (fun x hx => h2 x (List.mem_append_right _ hx)))

theorem law_types {P : Program} {ts : List TypeId} (h : (ts.all fun t => P.readableRec t && decide (t < P.types.size)) = true) : ∀ t ∈ ts, P.readableRec t = true ∧ t < P.types.size := by
  intro t ht
  have := List.all_eq_true.1 h t ht
  simpa using this

/-- The end of a law's proof. -/
theorem law_post {H : Type} {enc : TypeId × Value → H} {P : Program} {f : Func} {s : ChangeSpec} {W W' : World} {args : Array Value} {ds gs : List (DataW H)} {before : List MemPlace} {tb : TypeId}
    (hl : laidOutB P = true) (hts : ∀ t ∈ f.params.toList, P.readableRec t = true ∧ t < P.types.size) (hvars : s.vars = []) (hres : f.resultTypes = #[tb]) (htb : P.underlying tb = some .bool)
    (hspec : s.fn H ds = { results := [.lit (.bool true)], args := ds, vars := [] }) (hW : DataW.Whole enc P f.params.toList s.vars false W args.toList ds gs before) (hb : Below W.heap.size W W') :
    s.post enc P f false true false false W args (.bool true) W' := by
  have hW' := hW
  have hlt : ∀ p ∈ before, p.block < W.heap.size := fun p hp => hW.lt p hp
  obtain ⟨p, q, hA, hV, rfl, _, _⟩ := hW
  rw [hvars] at hV
  obtain ⟨rfl, rfl⟩ := trodVars_none hV
  have hsp : s.fn H (ds ++ []) = { results := [.lit (.bool true)], args := ds, vars := [] } := by rw [List.append_nil]; exact hspec
  refine ⟨ds, [], p ++ [], [], p, [], hW', ?_, ?_, ?_, hb.frame _, fun h => by cases h⟩
  · rw [hsp, hres]
    exact trodAll_cons_mk (shut_bool htb true) trodAll_mk0
  · rw [hsp]
    exact trodAll_stays hl hts hA (fun x hx => hb.same (hlt x (by simpa using hx))) (fun x hx => by simpa using hlt x (by simpa using hx))
  · rw [hsp, hvars]; rfl
end Go.Proofs.Ytebmegodeglobaa

namespace Go.Proofs.Ytebmegodeglobaa
open Go.RowKit

/-- As Sl, of an argument: nothing is asked of the type of the memory that it lies in. -/
def SlA (w : World) (v : Value) (l : List Nat) : Prop :=
  Lb l ∧ ∃ (a : Option Addr) (cap : Nat), v = .slice a l.length cap ∧ l.length ≤ cap ∧ cap ≤ 9223372036854775807 ∧ (a = none → cap = 0) ∧
    (0 < l.length → ∃ b off, a = some ⟨b, off, none⟩ ∧ b < w.heap.size ∧ ∀ i, i < l.length → w.cell? ⟨b, off + i, none⟩ = some (.int .u32 ((lim l i : Nat) : Int)))
theorem SlA.after {w w' : World} {v : Value} {l : List Nat} (h : SlA w v l) (hb : Below w.heap.size w w') : SlA w' v l := by
  obtain ⟨h0, a, cap, h1, h2, h3, h5, h6⟩ := h
  refine ⟨h0, a, cap, h1, h2, h3, h5, fun hl => ?_⟩
  obtain ⟨b, off, ha, hlt, hc⟩ := h6 hl
  exact ⟨b, off, ha, Nat.lt_of_lt_of_le hlt hb.size, fun i hi => keep_cell hb (hc i hi)⟩
theorem SlA.alloc {w : World} {v : Value} {l : List Nat} (h : SlA w v l) (o : Obj) : SlA (w.alloc o) v l := h.after ((Below.refl _ w).alloc (Nat.le_refl _) o)
theorem SlA.shape {w : World} {v : Value} {l : List Nat} (h : SlA w v l) : ∃ a cap, v = .slice a l.length cap ∧ l.length ≤ cap ∧ cap ≤ 9223372036854775807 := by
  obtain ⟨_, a, cap, h1, h2, h3, _, _⟩ := h
  exact ⟨a, cap, h1, h2, h3⟩
theorem SlA.cut {w : World} {p : Option Addr} {c : Nat} {l : List Nat} (h : SlA w (.slice p l.length c) l) : SlA w (.slice p (min (l.length : Int) 34).toNat c) (l.take 34) := by
  obtain ⟨h0, a, cap, h1, h2, h3, h5, h6⟩ := h
  obtain ⟨rfl, rfl⟩ : p = a ∧ c = cap := by injection h1 with e1 _ e3; exact ⟨e1, e3⟩
  have hn : (min (l.length : Int) 34).toNat = (l.take 34).length := by rw [List.length_take]; omega
  refine ⟨h0.take 34, p, c, by rw [hn], by rw [List.length_take]; omega, h3, h5, fun hl => ?_⟩
  rw [List.length_take] at hl
  obtain ⟨b, off, ha, hlt, hc⟩ := h6 (by omega)
  refine ⟨b, off, ha, hlt, fun i hi => ?_⟩
  rw [List.length_take] at hi
  rw [lim_take (by omega)]
  exact hc i (by omega)
theorem SlA.news {w : World} {ad : Addr} {n cap : Nat} {l : List Nat} (h : SlA w (.slice (some ad) n cap) l) : ∀ j u, (l.map u32)[j]? = some u → w.cell? (ad.add j) = some u := by
  obtain ⟨_, a, c, h1, _, _, _, h6⟩ := h
  obtain rfl : some ad = a := by injection h1
  intro j u hj
  have hl : j < l.length := by
    rcases Nat.lt_or_ge j l.length with h | h
    · exact h
    · rw [List.getElem?_eq_none (by simpa using h)] at hj; cases hj
  obtain ⟨b, off, ha, _, hc⟩ := h6 (by omega)
  obtain rfl : ad = ⟨b, off, none⟩ := by injection ha
  have hadd : (⟨b, off, none⟩ : Addr).add j = ⟨b, off + j, none⟩ := by unfold Addr.add; split <;> simp_all
  rw [hadd, hc j hl]
  rw [List.getElem?_map, List.getElem?_eq_getElem hl] at hj
  rw [lim_get hl]
  exact hj
/-- As IsF, of an argument. -/
def IsFA (w : World) (v : Value) (x : F) : Prop := ∃ va vb, v = .agg #[.bool x.neg, va, vb] ∧ SlA w va x.num ∧ SlA w vb x.den
theorem IsFA.after {w w' : World} {v : Value} {x : F} (h : IsFA w v x) (hb : Below w.heap.size w w') : IsFA w' v x := by
  obtain ⟨va, vb, e, h1, h2⟩ := h
  exact ⟨va, vb, e, h1.after hb, h2.after hb⟩

set_option maxHeartbeats 1000000 in
theorem clone_a (w : World) (va : Value) (a : List Nat) (h : SlA w va a) (ha : a.length ≤ 1000000) :
    Calls Try.prog 72 #[va] w fun e w' => ∃ v, e = .returned v ∧ Sl w' v a ∧ Below w.heap.size w w' := by
  have hs := h
  obtain ⟨h0, p, cap, rfl, h2, h3, h5, h6⟩ := h
  rcases p with _ | ad
  · have hz := h5 rfl
    have hl : a = [] := List.length_eq_zero_iff.1 (by omega)
    subst hl; subst hz
    have hnil := fun W : World => Lib.run_eql_slice_nil (P := Try.prog) W 24 95 none 0 0 0 0 Try.underlying24
    clear hs h6 h5
    go_enter Try.func72, Try.ntmps72
    go_wp2
    go_ret
    exact ⟨_, rfl, Sl.nil w, Below.refl _ w⟩
  · have hnil := fun W : World => Lib.run_eql_slice_nil (P := Try.prog) W 24 95 (some ad) a.length cap 0 0 Try.underlying24
    have hown := World.ownsRow_made (e := 95) (size := 1) (base := w.heap.size) w #[] 0 (Nat.le_refl _) (by simp) (by simp)
    have hnews := (hs.alloc (.cells #[] 95)).news
    obtain ⟨i0, hi, hz0, hz1, hz2⟩ := info_parts info32
    have HOWN := Lib.hid hown
    have HNEWS := Lib.hid hnews
    have hlm : maxLen = 9223372036854775807 := rfl
    have HLM := Lib.hid hlm
    clear hs h6 h5 hown hnews hlm
    go_enter Try.func72, Try.ntmps72
    go_wp2_with (at_builtin; refine wpList_append_own _ rfl _ _ 24 rfl w.heap.size 95 i0 (.int .u32 0) 1 4 Try.underlying24 hi hz0 hz1 hz2 rfl (by decide) _ _ _ rfl HOWN.out ad a.length cap (a.map u32) rfl ?c1 HNEWS.out ?c3 ?c4 ?c5 ?c6 ?_)
    case c1 => simp
    case c3 => exact fun u hu => one_u32 hu
    case c4 => rw [HLM.out]; omega
    case c5 => omega
    case c6 => simp
    intro v' w1 hown' hgrow _
    have hs' := Sl.of_own (l := a) hown' h0
    have HS := Lib.hid hs'
    clear hs' hown'
    go_wp2
    go_ret
    exact ⟨_, rfl, HS.out, ((Below.refl _ w).alloc (Nat.le_refl _) _).grown hgrow (by simp) (fun k hk => by simp [Value.ownBlock] at hk; omega)⟩

section
open Go.ChangeShapes
theorem cells_u32 : Try.prog.cellsOf 95 = 1 := by kernel_rfl
theorem cells_ratio : Try.prog.cellsOf 26 = 3 := by kernel_rfl
theorem u32_wf {n : Int} (h : (Lit.int .u32 n).wf = true) : 0 ≤ n ∧ n < 4294967296 := by
  have h1 : IntKind.u32.min = 0 := rfl
  have h2 : IntKind.u32.max = 4294967295 := rfl
  simp [Lit.wf, h1, h2] at h
  omega
theorem slA_of_arg {H : Type} {enc : TypeId × Value → H} {W : World} {n : Nat} {v : Value} {y : DataW H × List MemPlace} (h : DataW.trod enc Try.prog W 0 (fun _ => true) true n 24 [v] = some y) : ∃ l, SlA W v l := by
  rcases open_ints Try.underlying24 Try.underlying95 cells_u32 h with ⟨hc, _⟩ | ⟨a, len, cap, zs, hc, _, hl, hm, hz, _, hcell, hw⟩
  · obtain rfl : v = .slice none 0 0 := by simpa using hc
    exact ⟨[], Lb.nil, none, 0, rfl, Nat.le_refl _, by omega, fun _ => rfl, fun h => absurd h (by simp)⟩
  · obtain rfl : v = .slice (some a) len cap := by simpa using hc
    simp at hz
    have hlen : ((zs.take len).map Int.toNat).length = len := by simp; omega
    refine ⟨(zs.take len).map Int.toNat, ?_, some a, cap, by rw [hlen], by rw [hlen]; exact hl, by unfold maxLen at hm; exact hm, (fun h => by cases h), fun h0 => ?_⟩
    · intro x hx
      obtain ⟨z, hz', rfl⟩ := List.mem_map.1 hx
      have := u32_wf (hw z (List.mem_of_mem_take hz'))
      omega
    · rw [hlen] at h0
      have hs : a.spot = none := by
        have := hcell 0 (by omega)
        simpa [Addr.add] using World.cell?_spot this
      obtain ⟨b, off, spot⟩ := a
      simp only at hs
      subst hs
      have hadd : ∀ j, (⟨b, off, none⟩ : Addr).add j = ⟨b, off + j, none⟩ := fun j => by unfold Addr.add; split <;> simp_all
      refine ⟨b, off, rfl, ?_, fun i hi => ?_⟩
      · have := hcell 0 (by omega)
        rw [hadd] at this
        exact World.block_lt_of_cell? _ _ this
      · rw [hlen] at hi
        have := hcell i (by omega)
        rw [hadd] at this
        rw [this, lim_get (by rw [hlen]; exact hi)]
        have hb := u32_wf (hw zs[i] (List.getElem_mem _))
        simp [List.getD, show i < zs.length by omega]
        omega
set_option maxRecDepth 100000 in
/-- An argument that is a fraction. -/
theorem open_ratio {H : Type} {enc : TypeId × Value → H} {W : World} {base : Nat} {v : Value} {d : DataW H} {p : List MemPlace} (hv : Value.okWide Try.prog W .any base 26 v) (h : DataW.Trod enc Try.prog W 0 (fun _ => true) true 26 v d p) : ∃ x, IsFA W v x := by
  obtain ⟨v0, v1, v2, y0, y1, y2, n, rfl, _, _, h0, h1, h2⟩ := Joins.open_agg3 Try.underlying26 (by kernel_rfl) cells_ratio hv h
  obtain ⟨b, hb, _⟩ := DataW.trod_bool Try.underlying4 h0
  obtain rfl : v0 = .bool b := by simpa using hb
  obtain ⟨l1, hl1⟩ := slA_of_arg h1
  obtain ⟨l2, hl2⟩ := slA_of_arg h2
  exact ⟨⟨b, l1, l2⟩, v1, v2, rfl, hl1, hl2⟩
end
end Go.Proofs.Ytebmegodeglobaa

namespace Go.Proofs.Ytebmegodeglobaa
open Go.RowKit

/-- An element is told by its value itself. -/
def rdV (v : Value) : Option (DataW Value × List MemPlace) := some (.held v, [])
theorem mapLawI : Maps.Keyed Try.prog 3 := Maps.int_keyed Try.underlying3
theorem key_nat {k : Nat} (h : k ≤ 9223372036854775807) : keyOf Try.prog 3 (.int .i64 (k : Int)) = some (.int .i64 (k : Int)) := Maps.keyOf_int_mk Try.underlying3 (WalkArith.wf_i64 (by omega))
theorem zeroF (w : World) : (zeroValue 26).run Try.prog w = .ok (.agg #[.bool false, .slice none 0 0, .slice none 0 0]) w := by kernel_rfl
theorem ownsMap_isMap {w : World} {b n : Nat} {D : DataW Value} (h : w.ownsMap Try.prog 3 rdV b n D) : Maps.IsMap D := by
  obtain ⟨es, clock, _, _, _, rfl⟩ := h
  exact ⟨_, rfl⟩
theorem lit_nat {k k' : Nat} : (Lit.int .i64 (k : Int) = Lit.int .i64 (k' : Int)) ↔ k = k' := by
  constructor
  · intro h; injection h with _ h; omega
  · rintro rfl; rfl
/-- What the datum D says: key k bears f k. -/
def MapD (w : World) (D : DataW Value) (f : Nat → Option F) : Prop :=
  (∀ kl, Maps.has D kl = true → ∃ k : Nat, kl = .int .i64 (k : Int) ∧ (f k).isSome = true) ∧ (∀ k x, f k = some x → Maps.has D (.int .i64 (k : Int)) = true ∧ ∃ v, (∀ z, D.atKey (.int .i64 (k : Int)) z = .held v) ∧ IsF w v x)
theorem MapD.after {w w' : World} {D : DataW Value} {f : Nat → Option F} (h : MapD w D f) (hb : Below w.heap.size w w') : MapD w' D f :=
  ⟨h.1, fun k x hk => by obtain ⟨h1, v, h2, h3⟩ := h.2 k x hk; exact ⟨h1, v, h2, h3.after hb⟩⟩
theorem MapD.grown {w w' : World} {D : DataW Value} {f : Nat → Option F} {row : Option Nat} (h : MapD w D f) (hg : w.grownBy w' row) (hr : ∀ g, row = some g → ¬ Tag32 w g) : MapD w' D f :=
  ⟨h.1, fun k x hk => by obtain ⟨h1, v, h2, va, vb, e, h3, h4⟩ := h.2 k x hk; exact ⟨h1, v, h2, va, vb, e, h3.grown hg hr, h4.grown hg hr⟩⟩
theorem MapD.empty (w : World) : MapD w (.map []) (fun _ => none) := ⟨fun kl h => by simp [Maps.has] at h, fun k x h => by cases h⟩
/-- One entry more, or another one. -/
theorem MapD.put {w : World} {D : DataW Value} {f : Nat → Option F} {k : Nat} {v : Value} {x : F} (h : MapD w D f) (hm : Maps.IsMap D) (hv : IsF w v x) : MapD w (D.put (.int .i64 (k : Int)) (.held v)) (fun j => if j = k then some x else f j) := by
  have hk : Go.WideAt.IsKeyLit (.int .i64 (k : Int)) := trivial
  refine ⟨fun kl hh => ?_, fun j y hj => ?_⟩
  · by_cases he : kl = .int .i64 (k : Int)
    · exact ⟨k, he, by simp⟩
    · rw [Maps.has_put_other he] at hh
      obtain ⟨j, rfl, hj⟩ := h.1 kl hh
      refine ⟨j, rfl, ?_⟩
      show (if j = k then some x else f j).isSome = true
      rw [if_neg (fun e => he (by rw [e]))]
      exact hj
  · by_cases he : j = k
    · subst he
      simp only [if_true] at hj
      injection hj with hj
      subst hj
      exact ⟨Maps.has_put_same hm hk _, v, fun z => Maps.atKey_put_same hm hk _ z, hv⟩
    · simp only [he, if_false] at hj
      obtain ⟨h1, u, h2, h3⟩ := h.2 j y hj
      have hne : (Lit.int .i64 (j : Int)) ≠ .int .i64 (k : Int) := fun e => he (lit_nat.1 e)
      exact ⟨by rw [Maps.has_put_other hne]; exact h1, u, fun z => by rw [Maps.atKey_put_other hne]; exact h2 z, h3⟩
/-- Block M is a map of at most n entries: key k bears the fraction f k. -/
def MapF (w : World) (M n : Nat) (f : Nat → Option F) : Prop := ∃ D, w.ownsMap Try.prog 3 rdV M n D ∧ MapD w D f
theorem MapF.made (w : World) : MapF (w.alloc (.map #[] 0)) w.heap.size 0 (fun _ => none) := ⟨_, World.ownsMap_made w Try.prog 3 rdV, MapD.empty _⟩
theorem MapF.lt {w : World} {M n : Nat} {f : Nat → Option F} (h : MapF w M n f) : M < w.heap.size := by obtain ⟨D, h1, _⟩ := h; exact h1.lt
theorem MapF.after {w w' : World} {M n : Nat} {f : Nat → Option F} (h : MapF w M n f) (hb : Below w.heap.size w w') : MapF w' M n f := by
  obtain ⟨D, h1, h2⟩ := h
  exact ⟨D, h1.kept (grownBy_of_below hb) (by simp), h2.after hb⟩
theorem MapF.grown {w w' : World} {M n : Nat} {f : Nat → Option F} {row : Option Nat} (h : MapF w M n f) (hg : w.grownBy w' row) (hM : some M ≠ row) (hr : ∀ g, row = some g → ¬ Tag32 w g) : MapF w' M n f := by
  obtain ⟨D, h1, h2⟩ := h
  exact ⟨D, h1.kept hg hM, h2.grown hg hr⟩
theorem map_obj {w : World} {M n : Nat} {D : DataW Value} (h : w.ownsMap Try.prog 3 rdV M n D) : ∃ es c, w.heap[M]? = some (.map es c) := by
  obtain ⟨es, c, hb, _⟩ := h; exact ⟨es, c, hb⟩
theorem map_noTag {w : World} {M n : Nat} {D : DataW Value} (h : w.ownsMap Try.prog 3 rdV M n D) : ∀ g, some M = some g → ¬ Tag32 w g := by
  rintro g e ⟨cs, fz, h'⟩
  injection e with e
  subst e
  obtain ⟨es, c, hb⟩ := map_obj h
  rw [hb] at h'; cases h'
theorem map_notSoft {w : World} {M n : Nat} {D : DataW Value} (h : w.ownsMap Try.prog 3 rdV M n D) : ¬ Soft w M := by
  obtain ⟨es, c, hb⟩ := map_obj h
  rintro (⟨L, h'⟩ | ⟨d, h'⟩) <;> rw [hb] at h' <;> cases h'
/-- A cell is kept where only a map has turned. -/
theorem map_cell {w w' : World} {M n b o : Nat} {D : DataW Value} {v : Value} (h : w.ownsMap Try.prog 3 rdV M n D) (hg : w.grownBy w' (some M)) (hc : w.cell? ⟨b, o, none⟩ = some v) : w'.cell? ⟨b, o, none⟩ = some v := by
  refine hg.cell hc ?_
  intro e
  injection e with e
  simp only at e
  subst e
  obtain ⟨es, c, hb⟩ := map_obj h
  simp [World.cell?, hb] at hc
theorem map_box {w w' : World} {M n b : Nat} {D : DataW Value} {cs : Array Value} {t : TypeId} (h : w.ownsMap Try.prog 3 rdV M n D) (hg : w.grownBy w' (some M)) (hb : Box w b cs t) : Box w' b cs t := by
  refine hb.grown' hg ?_
  intro e
  injection e with e
  subst e
  obtain ⟨es, c, h'⟩ := map_obj h
  unfold Box at hb
  rw [hb] at h'; cases h'
/-- The value of no fraction. -/
def noF : Value := .agg #[.bool false, .slice none 0 0, .slice none 0 0]
theorem MapF.look_yes {w : World} {M n k : Nat} {f : Nat → Option F} {x : F} (h : MapF w M n f) (hk : k ≤ 9223372036854775807) (hf : f k = some x) : ∃ v, (Instr.lookup 62 (.map (some M)) (.int .i64 (k : Int)) true).run Try.prog w = .ok (.tuple #[v, .bool true]) w ∧ IsF w v x := by
  obtain ⟨D, h1, h2⟩ := h
  obtain ⟨v, ps, hrun, hv⟩ := h1.look_ok mapLawI Try.underlying62 (zeroF w) (zd := .held noF) (zp := []) rfl (key_nat hk)
  obtain ⟨g1, u, g2, g3⟩ := h2.2 k x hf
  rw [g1] at hrun
  rw [g2] at hv
  unfold rdV at hv
  injection hv with hv
  injection hv with hv _
  injection hv with hv
  exact ⟨v, hrun, by rw [hv]; exact g3⟩
theorem MapF.look_no {w : World} {M n k : Nat} {f : Nat → Option F} (h : MapF w M n f) (hk : k ≤ 9223372036854775807) (hf : f k = none) : (Instr.lookup 62 (.map (some M)) (.int .i64 (k : Int)) true).run Try.prog w = .ok (.tuple #[.agg #[.bool false, .slice none 0 0, .slice none 0 0], .bool false]) w := by
  obtain ⟨D, h1, h2⟩ := h
  obtain ⟨v, ps, hrun, hv⟩ := h1.look_ok mapLawI Try.underlying62 (zeroF w) (zd := .held noF) (zp := []) rfl (key_nat hk)
  have hno : Maps.has D (.int .i64 (k : Int)) = false := by
    cases hh : Maps.has D (.int .i64 (k : Int)) with
    | false => rfl
    | true =>
      obtain ⟨j, e, hj⟩ := h2.1 _ hh
      have := lit_nat.1 e
      subst this
      rw [hf] at hj; cases hj
  rw [hno] at hrun
  rw [Maps.atKey_of_not_has hno] at hv
  unfold rdV at hv
  have hv : v = noF := DataW.held.inj (congrArg Prod.fst (Option.some.inj hv))
  rw [hrun, hv]
  unfold noF
  exact rfl
/-- What a store leaves. -/
theorem MapF.put {w w' : World} {M n k : Nat} {f : Nat → Option F} {D : DataW Value} {v : Value} {x : F} (h : w.ownsMap Try.prog 3 rdV M n D) (hd : MapD w D f) (hv : IsF w v x)
    (h' : w'.ownsMap Try.prog 3 rdV M (n + 1) (D.put (.int .i64 (k : Int)) (.held v))) (hg : w.grownBy w' (some M)) : MapF w' M (n + 1) (fun j => if j = k then some x else f j) :=
  ⟨_, h', (hd.put (ownsMap_isMap h) hv).grown hg (map_noTag h)⟩
end Go.Proofs.Ytebmegodeglobaa

namespace Go.Proofs.Ytebmegodeglobaa
open Go.RowKit

/-- The parameter of the closure in its own variable. -/
theorem start_x {w : World} {x : F} {p q : Option Addr} {n m c d : Nat} (h1 : Sl w (.slice p n c) x.num) (h2 : Sl w (.slice q m d) x.den) :
    ∃ W0, W0 = w.alloc (.cells #[.bool x.neg, .slice p n c, .slice q m d] 26) ∧ Box W0 w.heap.size #[.bool x.neg, .slice p n c, .slice q m d] 26 ∧ Sl W0 (.slice p n c) x.num ∧ Sl W0 (.slice q m d) x.den ∧ Below w.heap.size w W0 ∧ W0.heap.size = w.heap.size + 1 :=
  ⟨_, rfl, Box.new w _ _, h1.alloc _, h2.alloc _, held_alloc (Below.refl _ w), by simp⟩
theorem grown_set3 (w : World) (O : Nat) (u0 u1 u2 : Value) : w.grownBy (((w.setCell ⟨O, 0, none⟩ u0).setCell ⟨O, 1, none⟩ u1).setCell ⟨O, 2, none⟩ u2) (some O) :=
  grown_tr (grown_tr (grown_set w O 0 u0) (grown_set _ O 1 u1)) (grown_set _ O 2 u2)
theorem varF_set3 {w : World} {b : Nat} {x0 x1 x2 va vb : Value} {r : F} (h : Box w b #[x0, x1, x2] 26) (hx0 : ∀ x, x0 ≠ .int .u32 x) (hx1 : ∀ x, x1 ≠ .int .u32 x) (hx2 : ∀ x, x2 ≠ .int .u32 x) (h1 : Sl w va r.num) (h2 : Sl w vb r.den) : VarF (((w.setCell ⟨b, 0, none⟩ (.bool r.neg)).setCell ⟨b, 1, none⟩ va).setCell ⟨b, 2, none⟩ vb) b r := by
  have hb1 : Box (w.setCell ⟨b, 0, none⟩ (.bool r.neg)) b #[.bool r.neg, x1, x2] 26 := by simpa using h.set 0 (.bool r.neg)
  have hb2 : Box ((w.setCell ⟨b, 0, none⟩ (.bool r.neg)).setCell ⟨b, 1, none⟩ va) b #[.bool r.neg, va, x2] 26 := by simpa using hb1.set 1 va
  refine ⟨va, vb, end_box h, ?_, ?_⟩
  · exact ((h1.setN (h.cell 0) hx0 _).setN (hb1.cell 1) hx1 _).setN (hb2.cell 2) hx2 _
  · exact ((h2.setN (h.cell 0) hx0 _).setN (hb1.cell 1) hx1 _).setN (hb2.cell 2) hx2 _

set_option maxRecDepth 100000 in
set_option maxHeartbeats 4000000 in
theorem chance1_stop (w : World) (k mo : Int) (v : Value) (x s r : F) (bB sB nB : Nat) (hx : IsF w v x) (hb : w.cell? ⟨bB, 1, none⟩ = some (.int .i64 mo)) (hbl : bB < w.heap.size) (hs : VarF w sB s) (hk : mo < k) (hsum : opF sumN s x = (r, 0)) :
    Calls Try.prog 21 #[.int .i64 k, v, .pointer (some ⟨bB, 0, none⟩), .pointer (some ⟨sB, 0, none⟩), .pointer (some ⟨nB, 0, none⟩)] w fun e w' => (∃ u, e = .returned u) ∧ VarF w' sB r ∧ w.grownBy w' (some sB) := by
  obtain ⟨va, vb, rfl, h1, h2⟩ := hx
  obtain ⟨p, cp, rfl, _, _⟩ := h1.shape
  obtain ⟨q, cq, rfl, _, _⟩ := h2.shape
  obtain ⟨W0, hW, bx, g1, g2, hb0, hsz⟩ := start_x h1 h2
  have cb : W0.cell? ⟨bB, 1, none⟩ = some (.int .i64 mo) := (hb0.cell (p := ⟨bB, 1, none⟩) hbl).trans hb
  have hs0 := hs.after hb0
  have hsl := hs.lt
  obtain ⟨vc, vd, bs, g3, g4⟩ := hs0
  obtain ⟨ps, cps, rfl, _, _⟩ := g3.shape
  obtain ⟨qs, cqs, rfl, _, _⟩ := g4.shape
  obtain ⟨x0, x1, x2⟩ := bx.cells3
  obtain ⟨s0, s1, s2⟩ := bs.cells3
  have hxl : w.heap.size < W0.heap.size := by omega
  have hsl2 : sB < W0.heap.size := by omega
  have HB0 := Lib.hid hb0
  have BS := Lib.hid bs
  have G1 := Lib.hid g1
  have G2 := Lib.hid g2
  have G3 := Lib.hid g3
  have G4 := Lib.hid g4
  have HSUM := Lib.hid hsum
  clear hs hb hbl hb0 bx bs g1 g2 g3 g4 h1 h2 hsz hsum
  go_enter Try.func21, Try.ntmps21
  go_upto_region 1 with fail
  rw [← hW]
  clear hW
  go_wp2_with fail
  refine (Add_c _ _ _ _ _ ⟨_, _, rfl, G3.out, G4.out⟩ ⟨_, _, rfl, G1.out, G2.out⟩).mono ?_
  rw [HSUM.out]
  rintro e w2 ⟨v2, rfl, hv2, hb2⟩
  obtain ⟨va2, vb2, rfl, k1, k2⟩ := hv2
  obtain ⟨p2, cp2, rfl, _, _⟩ := k1.shape
  obtain ⟨q2, cq2, rfl, _, _⟩ := k2.shape
  have bs2 := BS.out.after hb2
  obtain ⟨t0, t1, t2⟩ := bs2.cells3
  have f0 := bs2.frozen 0
  have f1 := bs2.frozen 1
  have f2 := bs2.frozen 2
  have BS2 := Lib.hid bs2
  have K1 := Lib.hid k1
  have K2 := Lib.hid k2
  have HB2 := Lib.hid (HB0.out.trans (hb2.mono HB0.out.size))
  clear bs2 k1 k2 hb2 s0 s1 s2 x0 x1 x2 cb BS G1 G2 G3 G4 HSUM
  go_wp2_with fail
  go_end0
  exact ⟨⟨_, rfl⟩, varF_set3 BS2.out (fun _ h => by cases h) (fun _ h => by cases h) (fun _ h => by cases h) K1.out K2.out, grown_tr (grown_but (grownBy_of_below HB2.out) _) (grown_set3 _ _ _ _ _)⟩

set_option maxRecDepth 100000 in
set_option maxHeartbeats 4000000 in
theorem chance1_new (w : World) (k : Nat) (mo : Int) (v : Value) (x : F) (bB sB nB M n : Nat) (f : Nat → Option F) (hx : IsF w v x) (hb : w.cell? ⟨bB, 1, none⟩ = some (.int .i64 mo)) (hbl : bB < w.heap.size) (hn : w.cell? ⟨nB, 0, none⟩ = some (.map (some M))) (hnl : nB < w.heap.size)
    (hM : MapF w M n f) (hnn : n < 9223372036854775807) (hkk : k ≤ 9223372036854775807) (hk : (k : Int) ≤ mo) (hf : f k = none) :
    Calls Try.prog 21 #[.int .i64 (k : Int), v, .pointer (some ⟨bB, 0, none⟩), .pointer (some ⟨sB, 0, none⟩), .pointer (some ⟨nB, 0, none⟩)] w fun e w' => (∃ u, e = .returned u) ∧ MapF w' M (n + 1) (fun j => if j = k then some x else f j) ∧ w.grownBy w' (some M) := by
  obtain ⟨va, vb, rfl, h1, h2⟩ := hx
  obtain ⟨p, cp, rfl, _, _⟩ := h1.shape
  obtain ⟨q, cq, rfl, _, _⟩ := h2.shape
  obtain ⟨W0, hW, bx, g1, g2, hb0, hsz⟩ := start_x h1 h2
  have cb : W0.cell? ⟨bB, 1, none⟩ = some (.int .i64 mo) := (hb0.cell (p := ⟨bB, 1, none⟩) hbl).trans hb
  have cn : W0.cell? ⟨nB, 0, none⟩ = some (.map (some M)) := (hb0.cell (p := ⟨nB, 0, none⟩) hnl).trans hn
  have hM0 := hM.after hb0
  have hrun := hM0.look_no hkk hf
  have hMl := hM.lt
  obtain ⟨x0, x1, x2⟩ := bx.cells3
  have hxl : w.heap.size < W0.heap.size := by omega
  have BX := Lib.hid bx
  have HB0 := Lib.hid hb0
  have HM0 := Lib.hid hM0
  have G1 := Lib.hid g1
  have G2 := Lib.hid g2
  have hnk : ¬ mo < (k : Int) := by omega
  clear hM0 hM hb hn hb0 bx g1 g2 h1 h2 hsz
  go_enter Try.func21, Try.ntmps21
  go_upto_region 1 with fail
  rw [← hW]
  clear hW
  have hnl0 : nB < W0.heap.size := by omega
  go_upto_region 4 with fail
  obtain ⟨W1, hW1, hb1, y0, y1, y2, cn1, HM1⟩ : ∃ W1, W1 = W0.alloc (.cells #[.bool false, .slice none 0 0, .slice none 0 0] 26) ∧ Hid (Below W0.heap.size W0 W1) ∧ W1.cell? ⟨w.heap.size, 0, none⟩ = some (.bool x.neg) ∧ W1.cell? ⟨w.heap.size, 1, none⟩ = some (.slice p x.num.length cp) ∧ W1.cell? ⟨w.heap.size, 2, none⟩ = some (.slice q x.den.length cq) ∧ W1.cell? ⟨nB, 0, none⟩ = some (.map (some M)) ∧ Hid (MapF W1 M n f) := by
    have hh : Below W0.heap.size W0 (W0.alloc (.cells #[.bool false, .slice none 0 0, .slice none 0 0] 26)) := held_alloc (Below.refl _ W0)
    exact ⟨_, rfl, hh, (hh.cell (p := ⟨w.heap.size, 0, none⟩) hxl).trans x0, (hh.cell (p := ⟨w.heap.size, 1, none⟩) hxl).trans x1, (hh.cell (p := ⟨w.heap.size, 2, none⟩) hxl).trans x2, (hh.cell (p := ⟨nB, 0, none⟩) hnl0).trans cn, HM0.out.after hh⟩
  rw [← hW1]
  clear hW1
  obtain ⟨D, hD1, hD2⟩ := HM1.out
  have HD1 := Lib.hid hD1
  have HD2 := Lib.hid hD2
  have GG := Lib.hid (show IsF W1 (.agg #[.bool x.neg, .slice p x.num.length cp, .slice q x.den.length cq]) x from ⟨_, _, rfl, G1.out.after hb1.out, G2.out.after hb1.out⟩)
  have HB1 := Lib.hid (HB0.out.trans (hb1.out.mono HB0.out.size))
  clear hD1 hD2 hb1 x0 x1 x2 cb cn hrun HM0 HM1 G1 G2 HB0 BX
  go_wp2_with (at_mapUpdate; refine wpList_mapUpdate_own _ rfl _ _ _ 62 rfl 3 26 mapLawI Try.underlying62 rdV M n D rfl HD1.out (by unfold maxLen; omega) _ _ _ rfl rfl (key_nat hkk) _ [] rfl ?_)
  intro w1 hown1 hgrow1
  have HP := Lib.hid (MapF.put HD1.out HD2.out GG.out hown1 hgrow1)
  have HG := Lib.hid hgrow1
  clear hown1 hgrow1
  go_wp2_with fail
  go_end0
  exact ⟨⟨_, rfl⟩, HP.out, grown_tr (grown_but (grownBy_of_below HB1.out) _) HG.out⟩

set_option maxRecDepth 100000 in
set_option maxHeartbeats 4000000 in
theorem chance1_more (w : World) (k : Nat) (mo : Int) (v : Value) (x y r : F) (bB sB nB M n : Nat) (f : Nat → Option F) (hx : IsF w v x) (hb : w.cell? ⟨bB, 1, none⟩ = some (.int .i64 mo)) (hbl : bB < w.heap.size) (hn : w.cell? ⟨nB, 0, none⟩ = some (.map (some M))) (hnl : nB < w.heap.size)
    (hM : MapF w M n f) (hnn : n < 9223372036854775807) (hkk : k ≤ 9223372036854775807) (hk : (k : Int) ≤ mo) (hf : f k = some y) (hsum : opF sumN y x = (r, 0)) :
    Calls Try.prog 21 #[.int .i64 (k : Int), v, .pointer (some ⟨bB, 0, none⟩), .pointer (some ⟨sB, 0, none⟩), .pointer (some ⟨nB, 0, none⟩)] w fun e w' => (∃ u, e = .returned u) ∧ MapF w' M (n + 1) (fun j => if j = k then some r else f j) ∧ w.grownBy w' (some M) := by
  obtain ⟨va, vb, rfl, h1, h2⟩ := hx
  obtain ⟨p, cp, rfl, _, _⟩ := h1.shape
  obtain ⟨q, cq, rfl, _, _⟩ := h2.shape
  obtain ⟨W0, hW, bx, g1, g2, hb0, hsz⟩ := start_x h1 h2
  have cb : W0.cell? ⟨bB, 1, none⟩ = some (.int .i64 mo) := (hb0.cell (p := ⟨bB, 1, none⟩) hbl).trans hb
  have cn : W0.cell? ⟨nB, 0, none⟩ = some (.map (some M)) := (hb0.cell (p := ⟨nB, 0, none⟩) hnl).trans hn
  have hM0 := hM.after hb0
  obtain ⟨vo, hrun, hvo⟩ := hM0.look_yes hkk hf
  obtain ⟨vc, vd, rfl, h3, h4⟩ := hvo
  obtain ⟨po, cpo, rfl, _, _⟩ := h3.shape
  obtain ⟨qo, cqo, rfl, _, _⟩ := h4.shape
  have hMl := hM.lt
  obtain ⟨x0, x1, x2⟩ := bx.cells3
  have hxl : w.heap.size < W0.heap.size := by omega
  have HB0 := Lib.hid hb0
  have HM0 := Lib.hid hM0
  have G1 := Lib.hid g1
  have G2 := Lib.hid g2
  have H3 := Lib.hid h3
  have H4 := Lib.hid h4
  have HSUM := Lib.hid hsum
  have hnk : ¬ mo < (k : Int) := by omega
  have hnl0 : nB < W0.heap.size := by omega
  clear hM0 hM hb hn hb0 bx g1 g2 h1 h2 h3 h4 hsz hsum
  go_enter Try.func21, Try.ntmps21
  go_upto_region 1 with fail
  rw [← hW]
  clear hW
  go_upto_region 4 with fail
  obtain ⟨W1, hW1, hb1, y0, y1, y2, z0, z1, z2, cn1, HM1⟩ : ∃ W1, W1 = W0.alloc (.cells #[.bool y.neg, .slice po y.num.length cpo, .slice qo y.den.length cqo] 26) ∧ Hid (Below W0.heap.size W0 W1) ∧ W1.cell? ⟨w.heap.size, 0, none⟩ = some (.bool x.neg) ∧ W1.cell? ⟨w.heap.size, 1, none⟩ = some (.slice p x.num.length cp) ∧ W1.cell? ⟨w.heap.size, 2, none⟩ = some (.slice q x.den.length cq) ∧
      W1.cell? ⟨W0.heap.size, 0, none⟩ = some (.bool y.neg) ∧ W1.cell? ⟨W0.heap.size, 1, none⟩ = some (.slice po y.num.length cpo) ∧ W1.cell? ⟨W0.heap.size, 2, none⟩ = some (.slice qo y.den.length cqo) ∧ W1.cell? ⟨nB, 0, none⟩ = some (.map (some M)) ∧ Hid (MapF W1 M n f) := by
    have hh : Below W0.heap.size W0 (W0.alloc (.cells #[.bool y.neg, .slice po y.num.length cpo, .slice qo y.den.length cqo] 26)) := held_alloc (Below.refl _ W0)
    have bz := Box.new W0 #[.bool y.neg, .slice po y.num.length cpo, .slice qo y.den.length cqo] 26
    exact ⟨_, rfl, hh, (hh.cell (p := ⟨w.heap.size, 0, none⟩) hxl).trans x0, (hh.cell (p := ⟨w.heap.size, 1, none⟩) hxl).trans x1, (hh.cell (p := ⟨w.heap.size, 2, none⟩) hxl).trans x2, bz.cell 0, bz.cell 1, bz.cell 2, (hh.cell (p := ⟨nB, 0, none⟩) hnl0).trans cn, HM0.out.after hh⟩
  rw [← hW1]
  clear hW1
  obtain ⟨D, hD1, hD2⟩ := HM1.out
  have HD1 := Lib.hid hD1
  have HD2 := Lib.hid hD2
  have GX := Lib.hid (show IsF W1 (.agg #[.bool x.neg, .slice p x.num.length cp, .slice q x.den.length cq]) x from ⟨_, _, rfl, G1.out.after hb1.out, G2.out.after hb1.out⟩)
  have GY := Lib.hid (show IsF W1 (.agg #[.bool y.neg, .slice po y.num.length cpo, .slice qo y.den.length cqo]) y from ⟨_, _, rfl, H3.out.after hb1.out, H4.out.after hb1.out⟩)
  have HB1 := Lib.hid (HB0.out.trans (hb1.out.mono HB0.out.size))
  clear hD1 hD2 hb1 x0 x1 x2 cb cn hrun HM0 HM1 G1 G2 H3 H4 HB0
  go_upto_region 5 with fail
  have mkS : Hid (∀ w', Below W1.heap.size W1 w' → w'.cell? ⟨nB, 0, none⟩ = some (.map (some M)) ∧ w'.cell? ⟨w.heap.size, 0, none⟩ = some (.bool x.neg) ∧ w'.cell? ⟨w.heap.size, 1, none⟩ = some (.slice p x.num.length cp) ∧ w'.cell? ⟨w.heap.size, 2, none⟩ = some (.slice q x.den.length cq) ∧
      w'.cell? ⟨W0.heap.size, 0, none⟩ = some (.bool y.neg) ∧ w'.cell? ⟨W0.heap.size, 1, none⟩ = some (.slice po y.num.length cpo) ∧ w'.cell? ⟨W0.heap.size, 2, none⟩ = some (.slice qo y.den.length cqo)) :=
    fun w' hb => ⟨keep_cell hb cn1, keep_cell hb y0, keep_cell hb y1, keep_cell hb y2, keep_cell hb z0, keep_cell hb z1, keep_cell hb z2⟩
  go_region_held3 (fun w' => w'.cell? ⟨nB, 0, none⟩ = some (.map (some M)) ∧ w'.cell? ⟨w.heap.size, 0, none⟩ = some (.bool x.neg) ∧ w'.cell? ⟨w.heap.size, 1, none⟩ = some (.slice p x.num.length cp) ∧ w'.cell? ⟨w.heap.size, 2, none⟩ = some (.slice q x.den.length cq) ∧
      w'.cell? ⟨W0.heap.size, 0, none⟩ = some (.bool y.neg) ∧ w'.cell? ⟨W0.heap.size, 1, none⟩ = some (.slice po y.num.length cpo) ∧ w'.cell? ⟨W0.heap.size, 2, none⟩ = some (.slice qo y.den.length cqo))
    (first | (refine mkS.out _ ?_; (repeat (first | with_reducible exact hk1 | with_reducible exact Below.refl _ _ | with_reducible refine below_dr ?_)); done) | (exact ⟨map_cell hown2 hgrow3 (keep_cell hk1 cn1), map_cell hown2 hgrow3 (keep_cell hk1 y0), map_cell hown2 hgrow3 (keep_cell hk1 y1), map_cell hown2 hgrow3 (keep_cell hk1 y2), map_cell hown2 hgrow3 (keep_cell hk1 z0), map_cell hown2 hgrow3 (keep_cell hk1 z1), map_cell hown2 hgrow3 (keep_cell hk1 z2)⟩))
    (first
     | (go_at_call 22; refine (Add_c _ _ _ y x (GY.out.after (below_dr (Below.refl _ W1))) (GX.out.after (below_dr (Below.refl _ W1)))).mono ?_; rw [HSUM.out]; rintro e w2 ⟨v2, rfl, hv2, hb2⟩; have hk1 := below_of_drew hb2; clear hb2; have hown2 := HD1.out.kept (grownBy_of_below hk1) (by simp); obtain ⟨w3, hrun3, hown3, hgrow3⟩ := hown2.update mapLawI Try.underlying62 (show n < maxLen by unfold maxLen; omega) (key_nat hkk) (show rdV v2 = some (.held v2, []) from rfl)))
  have HP := Lib.hid (MapF.put (HD1.out.kept (grownBy_of_below hk1) (by simp)) (HD2.out.after hk1) hv2 hown3 hgrow3)
  have HG := Lib.hid hgrow3
  have HK := Lib.hid (HB1.out.trans (hk1.mono HB1.out.size))
  clear hown3 hgrow3 hk1 hv2 mkS cn1 y0 y1 y2 z0 z1 z2
  go_wp2_with fail
  go_end0
  exact ⟨⟨_, rfl⟩, HP.out, grown_tr (grown_but (grownBy_of_below HK.out) _) HG.out⟩
end Go.Proofs.Ytebmegodeglobaa
