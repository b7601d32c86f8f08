/- Memory words, more: rows of numbers.
   Walks of the reference's tails: choose.
   Walks of the reference's tails: Choose, numerator, tail.
   Walks of the reference's tails: Exactly, Tail.
   Walks of the reference's tails: above, Critical.
   Canary, plain: which rollouts are valid, and what is decided at their boundaries.
   Canary, plain: what Allowed returns.
   Fractions by value: what the operations return at a fraction that is worth z / d, and when two are the same. No program in sight but the operations' own names.
   Walks of package tails: Upper's test at a rate.
   Walks: sort.Search over Upper's test. -/
import Derived.Test.YtebmegodeglobaaK10
import Derived.Test.YtebmegodeglobaaK15
import Derived.Test.YtebmegodeglobaaK16
import Derived.Test.YtebmegodeglobaaK12
import Derived.Test.YtebmegodeglobaaK14
import Derived.Test.YtebmegodeglobaaK08
set_option linter.unusedVariables false
namespace Go.Proofs.Ytebmegodeglobaa
open Go.RowKit

theorem infoN : (Try.prog.info? 24).map (fun i => (i.zero, i.size, i.bytes)) = some (some (.slice none 0 0), 1, 24) := by kernel_rfl
/-- A cell holds the number n. -/
def HasN (w : World) (b off n : Nat) : Prop := ∃ v, w.cell? ⟨b, off, none⟩ = some v ∧ Sl w v (limbs n)
theorem HasN.after {w w' : World} {b off n : Nat} (h : HasN w b off n) (hb : Below w.heap.size w w') : HasN w' b off n := by
  obtain ⟨v, h1, h2⟩ := h
  exact ⟨v, keep_cell hb h1, h2.after hb⟩
/-- The cells of block b from 0 on hold the numbers xs. -/
def RowN (w : World) (b : Nat) (xs : List Nat) : Prop := ∀ (i x : Nat), xs[i]? = some x → HasN w b i x
theorem RowN.after {w w' : World} {b : Nat} {xs : List Nat} (h : RowN w b xs) (hb : Below w.heap.size w w') : RowN w' b xs := fun i x hx => (h i x hx).after hb
theorem RowN.grown {w w' : World} {b : Nat} {xs : List Nat} {row : Option Nat} (h : RowN w b xs) (hg : w.grownBy w' row) (hne : some b ≠ row) (hr : ∀ g, row = some g → ¬ Tag32 w g) : RowN w' b xs := by
  intro i x hx
  obtain ⟨v, h1, h2⟩ := h i x hx
  exact ⟨v, hg.cell h1 hne, h2.grown hg hr⟩
/-- What the entries es of a row stand for. -/
def EntsN (w : World) (es : List Value) (xs : List Nat) : Prop := es.length = xs.length ∧ ∀ (i x : Nat), xs[i]? = some x → ∃ v, es[i]? = some v ∧ Sl w v (limbs x)
theorem EntsN.after {w w' : World} {es : List Value} {xs : List Nat} (h : EntsN w es xs) (hb : Below w.heap.size w w') : EntsN w' es xs :=
  ⟨h.1, fun i x hx => by obtain ⟨v, h1, h2⟩ := h.2 i x hx; exact ⟨v, h1, h2.after hb⟩⟩
theorem EntsN.grown {w w' : World} {es : List Value} {xs : List Nat} {row : Option Nat} (h : EntsN w es xs) (hg : w.grownBy w' row) (hr : ∀ g, row = some g → ¬ Tag32 w g) : EntsN w' es xs :=
  ⟨h.1, fun i x hx => by obtain ⟨v, h1, h2⟩ := h.2 i x hx; exact ⟨v, h1, h2.grown hg hr⟩⟩
theorem EntsN.nil (w : World) : EntsN w [] [] := ⟨rfl, fun i x h => by simp at h⟩
theorem EntsN.snoc {w : World} {es : List Value} {xs : List Nat} {x : Nat} {v : Value} (h : EntsN w es xs) (h1 : Sl w v (limbs x)) : EntsN w (es ++ [v]) (xs ++ [x]) := by
  refine ⟨by simp [h.1], fun i y hy => ?_⟩
  rcases Nat.lt_or_ge i xs.length with hi | hi
  · rw [List.getElem?_append_left hi] at hy
    obtain ⟨a, e1, e2⟩ := h.2 i y hy
    exact ⟨a, by rw [List.getElem?_append_left (by rw [h.1]; exact hi)]; exact e1, e2⟩
  · rw [List.getElem?_append_right hi] at hy
    have hi0 : i - xs.length = 0 := by
      rcases Nat.eq_zero_or_pos (i - xs.length) with h0 | h0
      · exact h0
      · rw [List.getElem?_eq_none (by simp; omega)] at hy; cases hy
    rw [hi0] at hy
    obtain rfl : x = y := by simpa using hy
    exact ⟨v, by rw [List.getElem?_append_right (by rw [h.1]; exact hi), h.1, hi0]; rfl, h1⟩
theorem ownsRow_one1 (w : World) {base : Nat} (t : TypeId) (hb : base ≤ w.heap.size) (x : Value) : (w.alloc (.cells #[x] t)).ownsRow base t 1 (.slice (some ⟨w.heap.size, 0, none⟩) 1 1) 1 [x] :=
  ⟨rfl, .inr ⟨w.heap.size, 1, #[x], rfl, hb, heap_alloc_new w _, Nat.le_refl _, by simp [maxLen], rfl, rfl⟩⟩
/-- An owned row of numbers reads as numbers. -/
theorem RowN.of_own {w : World} {base n m g cap : Nat} {t : TypeId} {es : List Value} {xs : List Nat} (h : w.ownsRow base t 1 (.slice (some ⟨g, 0, none⟩) m cap) n es) (he : EntsN w es xs) : RowN w g xs := by
  intro i x hx
  obtain ⟨v, e1, e2⟩ := he.2 i x hx
  have hc := h.cells (g := g) rfl
  have hadd : ∀ j, (⟨g, 0, none⟩ : Addr).add j = ⟨g, j, none⟩ := fun j => by unfold Addr.add; split <;> simp_all
  have c0 := hc _ _ e1
  rw [hadd] at c0
  exact ⟨v, c0, e2⟩
/-- Row i of Pascal's triangle up to place j. -/
def pasc (i j : Nat) : List Nat := (List.range j).map (ch i)
theorem pasc_len (i j : Nat) : (pasc i j).length = j := by unfold pasc; simp
theorem pasc_get {i j k : Nat} (h : k < j) : (pasc i j)[k]? = some (ch i k) := by
  unfold pasc; rw [List.getElem?_map, List.getElem?_range h]; rfl
theorem pasc_succ (i j : Nat) : pasc i j ++ [ch i j] = pasc i (j + 1) := by
  unfold pasc; rw [List.range_succ, List.map_append]; rfl
theorem pasc_one (i : Nat) : pasc i 1 = [1] := by
  show [ch i 0] = [1]
  rw [ch_zero]
theorem keep3z {W : World} {R X : Nat} {u0 u1 u2 a b c : Value} (h : R ≠ X) (hs : W.cell? ⟨X, 0, none⟩ = some a ∧ W.cell? ⟨X, 1, none⟩ = some b ∧ W.cell? ⟨X, 2, none⟩ = some c) :
    (((W.setCell ⟨R, 0, none⟩ u0).setCell ⟨R, 1, none⟩ u1).setCell ⟨R, 2, none⟩ u2).cell? ⟨X, 0, none⟩ = some a ∧ (((W.setCell ⟨R, 0, none⟩ u0).setCell ⟨R, 1, none⟩ u1).setCell ⟨R, 2, none⟩ u2).cell? ⟨X, 1, none⟩ = some b ∧
    (((W.setCell ⟨R, 0, none⟩ u0).setCell ⟨R, 1, none⟩ u1).setCell ⟨R, 2, none⟩ u2).cell? ⟨X, 2, none⟩ = some c := by
  have k : ∀ j, (((W.setCell ⟨R, 0, none⟩ u0).setCell ⟨R, 1, none⟩ u1).setCell ⟨R, 2, none⟩ u2).cell? ⟨X, j, none⟩ = W.cell? ⟨X, j, none⟩ := fun j => by
    rw [World.cell?_setCell_other _ _ _ _ (fun e => h (by injection e)), World.cell?_setCell_other _ _ _ _ (fun e => h (by injection e)), World.cell?_setCell_other _ _ _ _ (fun e => h (by injection e))]
  exact ⟨(k 0).trans hs.1, (k 1).trans hs.2.1, (k 2).trans hs.2.2⟩
end Go.Proofs.Ytebmegodeglobaa

namespace Go.Proofs.Ytebmegodeglobaa
open Go.RowKit

theorem rsum_n (w : World) (va vb : Value) (a b : Nat) (h : Sl w va (limbs a)) (k : Sl w vb (limbs b)) (ha : (limbs a).length ≤ 1000000) (hb : (limbs b).length ≤ 1000000) :
    Calls Try.prog 81 #[va, vb] w (RetNat w (a + b)) := by
  have := Sum_c w va vb _ _ h k ha hb; rwa [val_limbs, val_limbs] at this

theorem lit_one (w : World) : Sl (w.alloc (.cells #[.int .u32 1] 95)) (.slice (some ⟨w.heap.size, 0, none⟩) 1 1) (limbs 1) := by
  rw [limbs_one]
  exact Sl.of_row (l := [1]) (Row32.lit1 w 1 1 rfl) (Lb.cons (by omega) Lb.nil) (by simp) (by omega)
theorem ownsRow_le {w : World} {base b n size : Nat} {t : TypeId} {v : Value} {xs : List Value} (h : w.ownsRow base t size v n xs) (hb : b ≤ base) : w.ownsRow b t size v n xs := by
  refine ⟨h.1, ?_⟩
  rcases h.2 with h1 | ⟨g, cap, cur, h1, h2, h3⟩
  · exact .inl h1
  · exact .inr ⟨g, cap, cur, h1, Nat.le_trans hb h2, h3⟩
/-- A row of one number 1. -/
theorem lit_row (w : World) (base : Nat) (hb : base ≤ w.heap.size) (i : Nat) : ((w.alloc (.cells #[.int .u32 1] 95)).alloc (.cells #[.slice (some ⟨w.heap.size, 0, none⟩) 1 1] 24)).ownsRow base 24 1 (.slice (some ⟨w.heap.size + 1, 0, none⟩) 1 1) 1 [.slice (some ⟨w.heap.size, 0, none⟩) 1 1] ∧
    EntsN ((w.alloc (.cells #[.int .u32 1] 95)).alloc (.cells #[.slice (some ⟨w.heap.size, 0, none⟩) 1 1] 24)) [.slice (some ⟨w.heap.size, 0, none⟩) 1 1] (pasc i 1) := by
  constructor
  · have := ownsRow_one1 (w.alloc (.cells #[.int .u32 1] 95)) (base := base) 24 (by simp; omega) (.slice (some ⟨w.heap.size, 0, none⟩) 1 1)
    simpa using this
  · rw [pasc_one]
    exact ((EntsN.nil _).snoc (lit_one w)).after ((Below.refl _ _).alloc (Nat.le_refl _) _)

end Go.Proofs.Ytebmegodeglobaa

namespace Go.Proofs.Ytebmegodeglobaa
open Go.RowKit

theorem rdiff_n (w : World) (va vb : Value) (a b : Nat) (h : Sl w va (limbs a)) (k : Sl w vb (limbs b)) (hle : b ≤ a) (ha : (limbs a).length ≤ 1000000) :
    Calls Try.prog 69 #[va, vb] w (RetNat w (a - b)) := by
  have := Diff_c w va vb _ _ h k (limbs_len_mono hle) (by rw [val_limbs, val_limbs]; exact hle) ha; rwa [val_limbs, val_limbs] at this
theorem limbs_1000 {a : Nat} (h : a ≤ 1000) : (limbs a).length ≤ 1 := limbs_len_lt (by omega)

theorem ex_limbs {a b n k : Nat} (hab : a ≤ b) (hb1 : b ≤ 1000) (hn : n ≤ 64) : (limbs (ex a (b - a) n k)).length ≤ 20 :=
  Nat.le_trans (limbs_len_mono (ex_all_le a (b - a) n k)) (pow_limbs (by omega) hn)
theorem tl_limbs {a b n k : Nat} (hab : a ≤ b) (hb1 : b ≤ 1000) (hn : n ≤ 64) : (limbs (tl a (b - a) n k)).length ≤ 20 :=
  Nat.le_trans (limbs_len_mono (tl_all_le a (b - a) n k)) (pow_limbs (by omega) hn)

end Go.Proofs.Ytebmegodeglobaa

namespace Go.Proofs.Ytebmegodeglobaa
open Go.RowKit

theorem checkE_bad {x : F} {g : Bool} (h : rateE x ≠ 0) : checkE x g = rateE x := by unfold checkE; rw [if_neg h]
theorem checkE_false {x : F} (h : rateE x = 0) : checkE x false = 2 := by unfold checkE; rw [if_pos h, if_neg (by simp)]
theorem checkE_true {x : F} (h : rateE x = 0) : checkE x true = 0 := by unfold checkE; rw [if_pos h, if_pos rfl]
/-- The result left as it was made: nothing, with an error. -/
theorem retF_zero {w w1 : World} {R : Nat} {r : Int} {t : TypeId} (hb : Below w.heap.size w w1) (hle : w.heap.size ≤ R) (_ : Box w1 R #[.bool false, .slice none 0 0, .slice none 0 0] t) :
    RetF w (F0, r) (.returned (.tuple #[.agg #[.bool false, .slice none 0 0, .slice none 0 0], .int .i64 r])) (((w1.setCell ⟨R, 0, none⟩ (.bool false)).setCell ⟨R, 1, none⟩ (.slice none 0 0)).setCell ⟨R, 2, none⟩ (.slice none 0 0)) :=
  ⟨_, rfl, IsF.zero _, ((hb.setCell (p := ⟨R, 0, none⟩) hle _).setCell (p := ⟨R, 1, none⟩) hle _).setCell (p := ⟨R, 2, none⟩) hle _⟩
end Go.Proofs.Ytebmegodeglobaa

namespace Go.Proofs.Ytebmegodeglobaa
open Go.RowKit

/-- The error that Critical returns where it returns one. -/
def critErr (r s : Int) : Int := if r = 1 ∨ s = 1 then 1 else 2

theorem abv_le {n a c x y k : Nat} (h : Abv n a c x y k) : k ≤ n := by
  rcases Nat.lt_or_ge n k with h1 | h1
  · unfold Abv at h; rw [tl_gt h1, Nat.zero_mul] at h; omega
  · exact h1
theorem abv_anti {n a c x y i j : Nat} (h : i ≤ j) (hj : Abv n a c x y j) : Abv n a c x y i :=
  Nat.lt_of_lt_of_le hj (Nat.mul_le_mul_right y (tl_anti' a c n h))
theorem critR_first {n a c x y i : Nat} (h1 : ∀ j, j < i → Abv n a c x y j) (h2 : ¬ Abv n a c x y i) : CritR n a c x y i := by
  cases i with
  | zero => exact .inr ⟨fun j _ hj => h2 (abv_anti (Nat.zero_le _) hj), rfl⟩
  | succ i => exact .inl ⟨i, abv_le (h1 i (by omega)), h1 i (by omega), fun j hj _ hA => h2 (abv_anti hj hA), rfl⟩
theorem critR_uniq {n a c x y r s : Nat} (h1 : CritR n a c x y r) (h2 : CritR n a c x y s) : r = s := by
  rcases h1 with ⟨k, hk, ha, hn, rfl⟩ | ⟨hn, rfl⟩ <;> rcases h2 with ⟨l, hl, hb, hm, rfl⟩ | ⟨hm, rfl⟩
  · rcases Nat.lt_trichotomy k l with h | h | h
    · exact absurd hb (hn l h hl)
    · rw [h]
    · exact absurd ha (hm k h hk)
  · exact absurd ha (hm k hk)
  · exact absurd hb (hn l hl)
  · rfl

theorem critF_uniq {n : Int} {X Y : F} {r s : Int × Int} (h1 : critF n X Y r) (h2 : critF n X Y s) : r = s := by
  unfold critF at h1 h2
  split at h1
  · rename_i hc
    rw [if_pos hc] at h2
    obtain ⟨m, rfl, hm⟩ := h1
    obtain ⟨l, rfl, hl⟩ := h2
    rw [critR_uniq hm hl]
  · rename_i hc
    rw [if_neg hc] at h2
    rw [h1, h2]
end Go.Proofs.Ytebmegodeglobaa

namespace Go.Proofs.Ytebmegodeglobaa

theorem take_succ_ati {l : List Int} {k : Nat} (h : k < l.length) : l.take (k + 1) = l.take k ++ [ati l k] := by
  rw [List.take_succ_eq_append_getElem h, ati_get h]
theorem take_succ_atb {l : List Bool} {k : Nat} (h : k < l.length) : l.take (k + 1) = l.take k ++ [atb l k] := by
  rw [List.take_succ_eq_append_getElem h, atb_get h]
theorem drop_ati {l : List Int} {k : Nat} (h : k < l.length) : l.drop k = ati l k :: l.drop (k + 1) := by
  rw [List.drop_eq_getElem_cons h, ati_get h]
theorem sum_succ {l : List Int} {k : Nat} (h : k < l.length) : (l.take (k + 1)).sum = (l.take k).sum + ati l k := by
  rw [take_succ_ati h]; simp
theorem count_succ {l : List Bool} {k : Nat} (h : k < l.length) : (l.take (k + 1)).count true = (l.take k).count true + if atb l k = true then 1 else 0 := by
  rw [take_succ_atb h, List.count_append]
  cases atb l k <;> rfl
theorem sum_pos : ∀ {l : List Int}, (∀ z ∈ l, 1 ≤ z) → (l.length : Int) ≤ l.sum
  | [], _ => by simp
  | z :: l, h => by
    have := sum_pos (l := l) fun y hy => h y (List.mem_cons_of_mem _ hy)
    have := h z (List.mem_cons_self ..)
    simp only [List.length_cons, List.sum_cons]; omega
theorem sum_take_le {l : List Int} (h : ∀ z ∈ l, 1 ≤ z) (k : Nat) : (l.take k).sum ≤ l.sum := by
  have e : l.sum = (l.take k).sum + (l.drop k).sum := by rw [← List.sum_append, List.take_append_drop]
  have := sum_pos (l := l.drop k) fun z hz => h z (List.mem_of_mem_drop hz)
  omega
theorem sum_take_pos {l : List Int} (h : ∀ z ∈ l, 1 ≤ z) (k : Nat) : 0 ≤ (l.take k).sum := by
  have := sum_pos (l := l.take k) fun z hz => h z (List.mem_of_mem_take hz)
  omega
/-- Which rollouts are valid. -/
def ValidR (R : Ro) : Prop := 1 ≤ R.hosts.length ∧ R.hosts.length ≤ 16 ∧ (∀ z ∈ R.hosts, 0 ≤ z ∧ z ≤ 15) ∧ R.hosts.Nodup ∧ (∀ z ∈ R.waves, 1 ≤ z) ∧ R.waves.sum = R.hosts.length ∧ rateE R.rate = 0 ∧ fracE R.bound = 0
/-- The first k hosts are no reason to refuse. -/
def HostsOk (R : Ro) (k : Nat) : Prop := (∀ z ∈ R.hosts.take k, 0 ≤ z ∧ z ≤ 15) ∧ (R.hosts.take k).Nodup
theorem hostsOk_zero (R : Ro) : HostsOk R 0 := by unfold HostsOk; simp
theorem hostsOk_succ {R : Ro} {k : Nat} (h : HostsOk R k) (hk : k < R.hosts.length) (h0 : 0 ≤ ati R.hosts k) (h1 : ati R.hosts k ≤ 15) (h2 : ati R.hosts k ∉ R.hosts.take k) : HostsOk R (k + 1) := by
  unfold HostsOk at *
  rw [take_succ_ati hk]
  refine ⟨fun z hz => ?_, ?_⟩
  · rcases List.mem_append.1 hz with hz | hz
    · exact h.1 z hz
    · rw [List.mem_singleton] at hz; rw [hz]; exact ⟨h0, h1⟩
  · rw [List.nodup_append]
    refine ⟨h.2, by simp, fun a ha b hb => ?_⟩
    rw [List.mem_singleton] at hb
    rw [hb]; rintro rfl; exact h2 ha
theorem hosts_range {R : Ro} {k : Nat} (hk : k < R.hosts.length) (h : ¬ (0 ≤ ati R.hosts k ∧ ati R.hosts k ≤ 15)) : ¬ ValidR R := fun hv => h (hv.2.2.1 _ (ati_mem hk))
theorem hosts_twice {R : Ro} {k : Nat} (hk : k < R.hosts.length) (h : ati R.hosts k ∈ R.hosts.take k) : ¬ ValidR R := fun hv => by
  have hn := hv.2.2.2.1
  rw [← List.take_append_drop k R.hosts, List.nodup_append] at hn
  exact hn.2.2 _ h _ (by rw [drop_ati hk]; exact List.mem_cons_self ..) rfl
/-- The first k waves are no reason to refuse. -/
def WavesOk (R : Ro) (k : Nat) : Prop := ∀ z ∈ R.waves.take k, 1 ≤ z
theorem wavesOk_zero (R : Ro) : WavesOk R 0 := by unfold WavesOk; simp
theorem wavesOk_succ {R : Ro} {k : Nat} (h : WavesOk R k) (hk : k < R.waves.length) (h1 : 1 ≤ ati R.waves k) : WavesOk R (k + 1) := by
  unfold WavesOk at *
  rw [take_succ_ati hk]
  intro z hz
  rcases List.mem_append.1 hz with hz | hz
  · exact h z hz
  · rw [List.mem_singleton] at hz; rw [hz]; exact h1
theorem wave_low {R : Ro} {k : Nat} (hk : k < R.waves.length) (h : ¬ 1 ≤ ati R.waves k) : ¬ ValidR R := fun hv => h (hv.2.2.2.2.1 _ (ati_mem hk))
theorem wave_high {R : Ro} {k : Nat} (hk : k < R.waves.length) (h : (R.hosts.length : Int) < (R.waves.take k).sum + ati R.waves k) : ¬ ValidR R := fun hv => by
  have := sum_take_le hv.2.2.2.2.1 (k + 1)
  rw [sum_succ hk, hv.2.2.2.2.2.1] at this
  omega
theorem wave_big {R : Ro} {k : Nat} (hk : k < R.waves.length) (h : 16 < ati R.waves k) : ¬ ValidR R := fun hv => by
  have h1 := sum_take_pos hv.2.2.2.2.1 k
  have h2 := hv.2.1
  exact wave_high hk (by omega) hv
theorem validR_all {R : Ro} (h1 : 1 ≤ R.hosts.length) (h2 : R.hosts.length ≤ 16) (h3 : HostsOk R R.hosts.length) (h4 : WavesOk R R.waves.length) (h5 : R.waves.sum = R.hosts.length) (h6 : rateE R.rate = 0) (h7 : fracE R.bound = 0) : ValidR R := by
  unfold HostsOk at h3; unfold WavesOk at h4
  rw [List.take_length] at h3 h4
  exact ⟨h1, h2, h3.1, h3.2, h4, h5, h6, h7⟩
/-- How many hosts are done behind r waves. -/
def cum (R : Ro) (r : Nat) : Nat := (R.waves.take r).sum.toNat
theorem cum_zero (R : Ro) : cum R 0 = 0 := by unfold cum; simp
theorem cum_int {R : Ro} (h : ValidR R) (r : Nat) : ((cum R r : Nat) : Int) = (R.waves.take r).sum := by
  unfold cum; have := sum_take_pos h.2.2.2.2.1 r; omega
theorem cum_succ {R : Ro} (h : ValidR R) {r : Nat} (hr : r < R.waves.length) : cum R (r + 1) = cum R r + (ati R.waves r).toNat ∧ 1 ≤ ati R.waves r ∧ ((cum R r : Nat) : Int) + ati R.waves r = (cum R (r + 1) : Nat) := by
  have h1 := cum_int h r
  have h2 := cum_int h (r + 1)
  rw [sum_succ hr] at h2
  have h3 := h.2.2.2.2.1 _ (ati_mem hr)
  refine ⟨by omega, h3, by omega⟩
theorem cum_le {R : Ro} (h : ValidR R) (r : Nat) : cum R r ≤ R.hosts.length := by
  have h1 := cum_int h r
  have h2 := sum_take_le h.2.2.2.2.1 r
  rw [h.2.2.2.2.2.1] at h2
  omega
theorem cum_last {R : Ro} (h : ValidR R) : cum R R.waves.length = R.hosts.length := by
  have h1 := cum_int h R.waves.length
  rw [List.take_length, h.2.2.2.2.2.1] at h1
  omega
/-- The rollout goes on at n hosts with k failures. -/
def GoB (R : Ro) (n k : Nat) : Prop := Abv n (val R.rate.num) (val R.rate.den - val R.rate.num) (val R.bound.num) (val R.bound.den) k
/-- A decision: its kind, its hosts. -/
structure Dec where
  kind : Nat
  hosts : List Int
/-- How many of the first n failed. -/
def failsN (l : List Bool) (n : Nat) : Nat := (l.take n).count true
/-- The hosts of the wave from n to m. -/
def hostsOf (R : Ro) (n m : Nat) : List Int := (R.hosts.take m).drop n
open Classical in
/-- What Next decides from wave r on. -/
noncomputable def nextW (R : Ro) (failed : List Bool) (r : Nat) : Nat → Dec × Int
  | 0 => (⟨3, []⟩, 0)
  | fuel + 1 =>
    if failed.length = cum R r then (⟨1, hostsOf R (cum R r) (cum R (r + 1))⟩, 0)
    else if failed.length < cum R (r + 1) then (⟨0, []⟩, 8)
    else if GoB R (cum R (r + 1)) (failsN failed (cum R (r + 1))) then nextW R failed (r + 1) fuel
    else if cum R (r + 1) < failed.length then (⟨0, []⟩, 8) else (⟨2, []⟩, 0)
open Classical in
/-- What Next returns. -/
noncomputable def nextF (R : Ro) (failed : List Bool) : Dec × Int :=
  if ValidR R then (if R.hosts.length < failed.length then (⟨0, []⟩, 2) else nextW R failed 0 R.waves.length) else (⟨0, []⟩, 1)
theorem failsN_le (l : List Bool) (n : Nat) : failsN l n ≤ n := by
  unfold failsN
  exact Nat.le_trans List.count_le_length (by rw [List.length_take]; omega)
theorem rateE_zero_frac {x : F} (h : rateE x = 0) : fracE x = 0 := by
  rcases fracE_cases x with h0 | h0
  · exact h0
  · have hne : fracE x ≠ 0 := by omega
    rw [rateE_bad hne] at h
    exact h
/-- What is known of a valid rollout's fractions. -/
theorem validR_fr {R : Ro} (h : ValidR R) : ∃ a b x y, R.rate = fr false a b ∧ a ≤ b ∧ 0 < b ∧ b ≤ 1000 ∧ Ok false a b ∧ R.bound = fr false x y ∧ Ok false x y ∧ x ≤ y ∧ ∀ n k, GoB R n k ↔ Abv n a (b - a) x y k := by
  obtain ⟨a, b, e1, h1, h2, h3, e2, e3⟩ := rate_fr h.2.2.2.2.2.2.1
  obtain ⟨x, y, e4, h4, h5, e6, e7⟩ := frac_fr h.2.2.2.2.2.2.2
  refine ⟨a, b, x, y, e1, h1, h2, h3, ?_, e4, h4, h5, fun n k => ?_⟩
  · have := (fracE_zero (rateE_zero_frac h.2.2.2.2.2.2.1)).1
    rw [e1] at this
    exact validF_fr.1 this
  · unfold GoB; rw [e2, e3, e6, e7]
/-- What Critical says of a valid rollout: with how many failures it goes on. -/
theorem crit_goB {R : Ro} (h : ValidR R) {n : Nat} (hn : n ≤ 16) {r : Int × Int} (hr : critF (n : Int) R.rate R.bound r) : ∃ m : Nat, r = ((m : Int), 0) ∧ m ≤ n + 1 ∧ ∀ k : Nat, GoB R n k ↔ k < m := by
  obtain ⟨a, b, x, y, e1, h1, h2, h3, h4, e2, h5, h6, hg⟩ := validR_fr h
  rw [e1, e2] at hr
  unfold critF at hr
  have ht : trialsB (n : Int) 0 0 = true := trialsB_iff.2 ⟨by omega, by omega, by omega, by omega⟩
  have hr0 : rateE (fr false a b) = 0 := by rw [← e1]; exact h.2.2.2.2.2.2.1
  have hf0 : fracE (fr false x y) = 0 := by rw [← e2]; exact h.2.2.2.2.2.2.2
  rw [ht, if_pos ⟨checkE_true hr0, hf0⟩] at hr
  obtain ⟨m, hm, hc⟩ := hr
  change CritR _ (val (limbs a)) (val (limbs b) - val (limbs a)) (val (limbs x)) (val (limbs y)) m at hc
  rw [val_limbs, val_limbs, val_limbs, val_limbs, Int.toNat_natCast] at hc
  refine ⟨m, hm, ?_, fun k => ?_⟩
  · rcases hc with ⟨k, hk, _, _, rfl⟩ | ⟨_, rfl⟩ <;> omega
  · rw [hg]
    rcases hc with ⟨k0, hk, ha, hn', rfl⟩ | ⟨hn', rfl⟩
    · constructor
      · intro hA
        rcases Nat.lt_or_ge k (k0 + 1) with hh | hh
        · exact hh
        · exact absurd hA (hn' k (by omega) (abv_le hA))
      · intro hlt
        exact abv_anti (by omega) ha
    · constructor
      · intro hA; exact absurd hA (hn' k (abv_le hA))
      · intro hlt; omega
end Go.Proofs.Ytebmegodeglobaa

namespace Go.Proofs.Ytebmegodeglobaa

open Classical in
/-- With fewer failures than this the rollout goes on at n hosts. -/
noncomputable def mOf (R : Ro) (n : Nat) : Nat := if h : ∃ m, m ≤ n + 1 ∧ ∀ k : Nat, GoB R n k ↔ k < m then Classical.choose h else 0
theorem mOf_eq {R : Ro} {n m : Nat} (hm : m ≤ n + 1) (hg : ∀ k : Nat, GoB R n k ↔ k < m) : mOf R n = m := by
  have h : ∃ m, m ≤ n + 1 ∧ ∀ k : Nat, GoB R n k ↔ k < m := ⟨m, hm, hg⟩
  unfold mOf
  rw [dif_pos h]
  have hc := (Classical.choose_spec h).2
  rcases Nat.lt_trichotomy (Classical.choose h) m with h1 | h1 | h1
  · have := (hc (Classical.choose h)).1 ((hg _).2 h1); omega
  · exact h1
  · have := (hg m).1 ((hc m).2 h1); omega
/-- The first r entries of what Allowed returns. -/
noncomputable def allowedL (R : Ro) (r : Nat) : List Int := (List.range r).map fun j => (mOf R (cum R (j + 1)) : Int) - 1
theorem allowedL_succ (R : Ro) (r : Nat) : allowedL R (r + 1) = allowedL R r ++ [(mOf R (cum R (r + 1)) : Int) - 1] := by
  unfold allowedL; rw [List.range_succ, List.map_append]; rfl
theorem allowedL_len (R : Ro) (r : Nat) : (allowedL R r).length = r := by unfold allowedL; simp
open Classical in
/-- What Allowed returns. -/
noncomputable def allowedF (R : Ro) : List Int × Int := if ValidR R then (allowedL R R.waves.length, 0) else ([], 1)
theorem waves_le {R : Ro} (h : ValidR R) : R.waves.length ≤ 16 := by
  have h1 := sum_pos h.2.2.2.2.1
  rw [h.2.2.2.2.2.1] at h1
  have := h.2.1
  omega
/-- Where a valid rollout stops going on. -/
theorem goB_mOf {R : Ro} (h : ValidR R) {n : Nat} (hn : n ≤ 16) : mOf R n ≤ n + 1 ∧ ∀ k : Nat, GoB R n k ↔ k < mOf R n := by
  obtain ⟨a, b, x, y, e1, h1, h2, h3, h4, e2, h5, h6, hg⟩ := validR_fr h
  have hex : ∃ m, m ≤ n + 1 ∧ ∀ k : Nat, GoB R n k ↔ k < m := by
    by_cases h0 : ∃ k, Abv n a (b - a) x y k
    · classical
      have hle : ∀ k, Abv n a (b - a) x y k → k ≤ n := fun k hk => abv_le hk
      -- the greatest of them
      obtain ⟨k, hk, hmax⟩ : ∃ k, Abv n a (b - a) x y k ∧ ∀ j, Abv n a (b - a) x y j → j ≤ k := by
        have : ∀ d, (∃ k, Abv n a (b - a) x y k ∧ n - k ≤ d) → ∃ k, Abv n a (b - a) x y k ∧ ∀ j, Abv n a (b - a) x y j → j ≤ k := by
          intro d
          induction d with
          | zero =>
            rintro ⟨k, hk, hd⟩
            exact ⟨k, hk, fun j hj => by have := hle j hj; omega⟩
          | succ d ih =>
            rintro ⟨k, hk, hd⟩
            by_cases hm : ∀ j, Abv n a (b - a) x y j → j ≤ k
            · exact ⟨k, hk, hm⟩
            · have : ∃ j, ¬ (Abv n a (b - a) x y j → j ≤ k) := Classical.not_forall.1 hm
              obtain ⟨j, hj⟩ := this
              have hj1 : Abv n a (b - a) x y j := Classical.byContradiction fun hh => hj (fun h => absurd h hh)
              have hj2 : ¬ j ≤ k := fun hh => hj (fun _ => hh)
              exact ih ⟨j, hj1, by have := hle j hj1; omega⟩
        obtain ⟨k, hk⟩ := h0
        exact this n ⟨k, hk, by omega⟩
      refine ⟨k + 1, by have := hle k hk; omega, fun j => ?_⟩
      rw [hg]
      exact ⟨fun hj => by have := hmax j hj; omega, fun hj => abv_anti (by omega) hk⟩
    · exact ⟨0, by omega, fun k => by rw [hg]; exact ⟨fun hk => absurd ⟨k, hk⟩ h0, fun hk => by omega⟩⟩
  obtain ⟨m, hm, hk⟩ := hex
  rw [mOf_eq hm hk]
  exact ⟨hm, hk⟩
end Go.Proofs.Ytebmegodeglobaa

namespace Go.Proofs.Ytebmegodeglobaa

def sg (s : Bool) (a : Nat) : Int := if s = true then -(a : Int) else a
/-- The fraction z / d in lowest terms, and its error. -/
noncomputable def madeZ (z : Int) (d : Nat) : F × Int := made (decide (z < 0)) z.natAbs d

theorem made_zero (s : Bool) (d : Nat) : made s 0 d = made false 0 d := by
  unfold made
  simp
theorem made_sg (s : Bool) (n d : Nat) : made s n d = madeZ (sg s n) d := by
  unfold madeZ sg
  cases s with
  | false =>
    have h : decide (((n : Nat) : Int) < 0) = false := by simp
    simp only [Bool.false_eq_true, if_false, h, Int.natAbs_natCast]
  | true =>
    rcases Nat.eq_zero_or_pos n with h0 | h0
    · subst h0
      rw [made_zero]
      rfl
    · have h : decide (-((n : Nat) : Int) < 0) = true := by simp; omega
      simp only [if_true, h, Int.natAbs_neg, Int.natAbs_natCast]
theorem nat_cong {n d n' d' : Nat} (hd : 0 < d) (hd' : 0 < d') (h : n * d' = n' * d) : n / Nat.gcd n d = n' / Nat.gcd n' d' ∧ d / Nat.gcd n d = d' / Nat.gcd n' d' := by
  obtain ⟨a, b, hab, e1, e2⟩ := Nat.exists_coprime n d
  obtain ⟨a', b', hab', e1', e2'⟩ := Nat.exists_coprime n' d'
  have hg : 0 < Nat.gcd n d := Nat.gcd_pos_of_pos_right _ hd
  have hg' : 0 < Nat.gcd n' d' := Nat.gcd_pos_of_pos_right _ hd'
  have q1 : n / Nat.gcd n d = a := Nat.div_eq_of_eq_mul_left hg e1
  have q2 : d / Nat.gcd n d = b := Nat.div_eq_of_eq_mul_left hg e2
  have q1' : n' / Nat.gcd n' d' = a' := Nat.div_eq_of_eq_mul_left hg' e1'
  have q2' : d' / Nat.gcd n' d' = b' := Nat.div_eq_of_eq_mul_left hg' e2'
  rw [q1, q2, q1', q2']
  generalize Nat.gcd n d = g at *
  generalize Nat.gcd n' d' = g' at *
  have hb : 0 < b := by
    rcases Nat.eq_zero_or_pos b with h0 | h0
    · rw [h0, Nat.zero_mul] at e2; omega
    · exact h0
  have key : a * b' = a' * b := by
    rw [e1, e2, e1', e2'] at h
    have h2 : (a * b') * (g * g') = (a' * b) * (g * g') := by
      calc (a * b') * (g * g') = a * g * (b' * g') := by ac_rfl
        _ = a' * g' * (b * g) := h
        _ = (a' * b) * (g * g') := by ac_rfl
    exact Nat.eq_of_mul_eq_mul_right (Nat.mul_pos hg hg') h2
  have d1 : b ∣ b' := Nat.Coprime.dvd_of_dvd_mul_left (Nat.Coprime.symm hab) ⟨a', by rw [key, Nat.mul_comm]⟩
  have d2 : b' ∣ b := Nat.Coprime.dvd_of_dvd_mul_left (Nat.Coprime.symm hab') ⟨a, by rw [← key, Nat.mul_comm]⟩
  have eb : b = b' := Nat.dvd_antisymm d1 d2
  subst eb
  exact ⟨Nat.eq_of_mul_eq_mul_right hb key, rfl⟩
theorem madeZ_cong {z z' : Int} {d d' : Nat} (hd : 0 < d) (hd' : 0 < d') (h : z * d' = z' * d) : madeZ z d = madeZ z' d' := by
  have hs : (z < 0 ↔ z' < 0) := by
    constructor
    · intro hz
      rcases Int.lt_or_le z' 0 with h1 | h1
      · exact h1
      · have h2 : z * d' < 0 := Int.mul_neg_of_neg_of_pos hz (by omega)
        have h3 : 0 ≤ z' * d := Int.mul_nonneg h1 (by omega)
        omega
    · intro hz
      rcases Int.lt_or_le z 0 with h1 | h1
      · exact h1
      · have h2 : z' * d < 0 := Int.mul_neg_of_neg_of_pos hz (by omega)
        have h3 : 0 ≤ z * d' := Int.mul_nonneg h1 (by omega)
        omega
  have hn : z.natAbs * d' = z'.natAbs * d := by
    have := congrArg Int.natAbs h
    rwa [Int.natAbs_mul, Int.natAbs_mul, Int.natAbs_natCast, Int.natAbs_natCast] at this
  obtain ⟨q1, q2⟩ := nat_cong hd hd' hn
  have hd2 : decide (z < 0) = decide (z' < 0) := by simp only [hs]
  unfold madeZ made
  rw [q1, q2, hd2]
theorem made_okS {s : Bool} {a b : Nat} (h : Ok s a b) : made s a b = (fr s a b, 0) := by
  unfold made
  rw [h.gcd, Nat.div_one, Nat.div_one, if_neg (by have := h.n32; have := h.d32; omega)]
  have : (s && decide (0 < a)) = s := by
    rcases Nat.eq_zero_or_pos a with h0 | h0
    · rw [h.sign h0]; rfl
    · simp [h0]
  rw [this]
theorem sg_natAbs (s : Bool) (a : Nat) : (sg s a).natAbs = a := by unfold sg; cases s <;> simp

/-- The fraction x is valid and worth z / d. -/
def Rep (x : F) (z : Int) (d : Nat) : Prop := 0 < d ∧ ∃ s a b, x = fr s a b ∧ Ok s a b ∧ sg s a * d = z * b
theorem Rep.valid {x : F} {z : Int} {d : Nat} (h : Rep x z d) : ValidF x := by
  obtain ⟨_, s, a, b, rfl, hk, _⟩ := h
  exact validF_fr.2 hk
theorem Rep.made {x : F} {z : Int} {d : Nat} (h : Rep x z d) : madeZ z d = (x, 0) := by
  obtain ⟨hd, s, a, b, rfl, hk, he⟩ := h
  rw [madeZ_cong hd hk.pos he.symm, ← made_sg, made_okS hk]
theorem Rep.fst {x : F} {z : Int} {d : Nat} (h : Rep x z d) : (madeZ z d).1 = x := by rw [h.made]
theorem rep_of_ok {s : Bool} {a b : Nat} (h : Ok s a b) : Rep (fr s a b) (sg s a) b := ⟨h.pos, s, a, b, rfl, h, rfl⟩
theorem Rep.cong {x : F} {z z' : Int} {d d' : Nat} (h : Rep x z d) (hd' : 0 < d') (he : z * d' = z' * d) : Rep x z' d' := by
  obtain ⟨hd, s, a, b, rfl, hk, h1⟩ := h
  refine ⟨hd', s, a, b, rfl, hk, ?_⟩
  have h2 : (sg s a * d') * d = (z' * b) * d := by grind
  exact Int.eq_of_mul_eq_mul_right (by omega) h2
theorem rep_of_made {z : Int} {d : Nat} (hd : 0 < d) (hz : (limbs z.natAbs).length ≤ 32) (hdl : (limbs d).length ≤ 32) : ∃ x, madeZ z d = (x, 0) ∧ Rep x z d := by
  obtain ⟨a, b, hab, e1, e2⟩ := Nat.exists_coprime z.natAbs d
  have hg : 0 < Nat.gcd z.natAbs d := Nat.gcd_pos_of_pos_right _ hd
  generalize Nat.gcd z.natAbs d = g at *
  have hb : 0 < b := by
    rcases Nat.eq_zero_or_pos b with h0 | h0
    · rw [h0, Nat.zero_mul] at e2; omega
    · exact h0
  have la : a ≤ z.natAbs := by rw [e1]; exact Nat.le_mul_of_pos_right _ hg
  have lb : b ≤ d := by rw [e2]; exact Nat.le_mul_of_pos_right _ hg
  have hk : Ok (decide (z < 0)) a b := by
    refine ⟨Nat.le_trans (limbs_len_mono la) hz, Nat.le_trans (limbs_len_mono lb) hdl, hb, hab, fun h0 => ?_⟩
    rw [h0, Nat.zero_mul] at e1
    simp; omega
  have hsz : sg (decide (z < 0)) a * g = z := by
    have e3 : ((a : Int) * g) = (z.natAbs : Int) := by rw [e1]; push_cast; rfl
    unfold sg
    by_cases h : z < 0
    · rw [if_pos (by simpa using h), Int.neg_mul, e3]; omega
    · rw [if_neg (by simpa using h), e3]; omega
  have hr : Rep (fr (decide (z < 0)) a b) z d := by
    refine ⟨hd, _, a, b, rfl, hk, ?_⟩
    have e4 : (d : Int) = b * g := by rw [e2]; push_cast; rfl
    rw [e4]
    grind
  exact ⟨_, hr.made, hr⟩
theorem Rep.inj {x y : F} {z z' : Int} {d d' : Nat} (h : Rep x z d) (k : Rep y z' d') : x = y ↔ z * d' = z' * d := by
  constructor
  · rintro rfl
    obtain ⟨hd, s, a, b, e, hk, h1⟩ := h
    obtain ⟨hd', s', a', b', e', hk', h2⟩ := k
    rw [e] at e'
    unfold fr at e'
    injection e' with f0 f1 f2
    have f1 := limbs_inj f1
    have f2 := limbs_inj f2
    subst f0; subst f1; subst f2
    have hb : (0 : Int) < b := by have := hk.pos; omega
    have h3 : (z * d') * b = (z' * d) * b := by grind
    exact Int.eq_of_mul_eq_mul_right (by omega) h3
  · intro he
    have h1 := h.made
    rw [madeZ_cong h.1 k.1 he, k.made] at h1
    exact (congrArg Prod.fst h1).symm

theorem sumN_sg (n1 n2 : Bool) (a b c d : Nat) : sumN n1 a b n2 c d = madeZ (sg n1 a * d + sg n2 c * b) (b * d) := by
  have h1 : ((a * d : Nat) : Int) = (a : Int) * d := by push_cast; rfl
  have h2 : ((c * b : Nat) : Int) = (c : Int) * b := by push_cast; rfl
  unfold sumN
  cases n1 <;> cases n2
  · rw [if_pos rfl, made_sg]
    congr 1
  · rw [if_neg (by simp)]
    by_cases h : a * d < c * b
    · rw [if_pos h, made_sg]
      congr 1
      unfold sg
      simp only [Bool.false_eq_true, if_false, if_true, Int.neg_mul]
      omega
    · rw [if_neg h, made_sg]
      congr 1
      unfold sg
      simp only [Bool.false_eq_true, if_false, if_true, Int.neg_mul]
      omega
  · rw [if_neg (by simp)]
    by_cases h : a * d < c * b
    · rw [if_pos h, made_sg]
      congr 1
      unfold sg
      simp only [Bool.false_eq_true, if_false, if_true, Int.neg_mul]
      omega
    · rw [if_neg h, made_sg]
      congr 1
      unfold sg
      simp only [Bool.false_eq_true, if_false, if_true, Int.neg_mul]
      omega
  · rw [if_pos rfl, made_sg]
    congr 1
    unfold sg
    simp only [if_true, Int.neg_mul]
    omega
theorem sg_not (s : Bool) (c : Nat) : sg (!s && decide (0 < c)) c = - sg s c := by
  unfold sg
  rcases Nat.eq_zero_or_pos c with h | h
  · subst h; simp
  · cases s <;> simp [h]
theorem rep_add {x y : F} {z z' : Int} {d d' : Nat} (h : Rep x z d) (k : Rep y z' d') : opF sumN x y = madeZ (z * d' + z' * d) (d * d') := by
  obtain ⟨hd, s, a, b, rfl, hk, h1⟩ := h
  obtain ⟨hd', s', a', b', rfl, hk', h2⟩ := k
  rw [opF_fr hk hk', sumN_sg]
  refine madeZ_cong (Nat.mul_pos hk.pos hk'.pos) (Nat.mul_pos hd hd') ?_
  push_cast
  grind
theorem rep_sub {x y : F} {z z' : Int} {d d' : Nat} (h : Rep x z d) (k : Rep y z' d') : opF subN x y = madeZ (z * d' - z' * d) (d * d') := by
  obtain ⟨hd, s, a, b, rfl, hk, h1⟩ := h
  obtain ⟨hd', s', a', b', rfl, hk', h2⟩ := k
  rw [opF_fr hk hk']
  unfold subN
  rw [sumN_sg, sg_not]
  refine madeZ_cong (Nat.mul_pos hk.pos hk'.pos) (Nat.mul_pos hd hd') ?_
  push_cast
  grind
theorem sg_mul (s t : Bool) (a c : Nat) : sg (!(s == t)) (a * c) = sg s a * sg t c := by
  unfold sg
  cases s <;> cases t <;> simp [Int.neg_mul, Int.mul_neg]
theorem rep_mul {x y : F} {z z' : Int} {d d' : Nat} (h : Rep x z d) (k : Rep y z' d') : opF mulN x y = madeZ (z * z') (d * d') := by
  obtain ⟨hd, s, a, b, rfl, hk, h1⟩ := h
  obtain ⟨hd', s', a', b', rfl, hk', h2⟩ := k
  rw [opF_fr hk hk']
  unfold mulN
  rw [made_sg, sg_mul]
  refine madeZ_cong (Nat.mul_pos hk.pos hk'.pos) (Nat.mul_pos hd hd') ?_
  push_cast
  grind
theorem ordN_sg (n1 n2 : Bool) (a b c d : Nat) (hb : 0 < b) (hd : 0 < d) (h1 : a = 0 → n1 = false) (h2 : c = 0 → n2 = false) : ordN n1 a b n2 c d = if sg n1 a * d < sg n2 c * b then -1 else if sg n1 a * d = sg n2 c * b then 0 else 1 := by
  have e1 : ((a * d : Nat) : Int) = (a : Int) * d := by push_cast; rfl
  have e2 : ((c * b : Nat) : Int) = (c : Int) * b := by push_cast; rfl
  unfold ordN sg
  cases n1 <;> cases n2
  · simp only [if_true, Bool.false_eq_true, if_false, ← e1, ← e2, Int.ofNat_lt, Int.natCast_inj]
  · have hc : 0 < c := by
      rcases Nat.eq_zero_or_pos c with h | h
      · exact absurd (h2 h) (by simp)
      · exact h
    have := Nat.mul_pos hc hb
    simp only [Bool.false_eq_true, if_false, if_true, Int.neg_mul, ← e1, ← e2]
    rw [if_neg (by omega), if_neg (by omega)]
  · have hc : 0 < a := by
      rcases Nat.eq_zero_or_pos a with h | h
      · exact absurd (h1 h) (by simp)
      · exact h
    have := Nat.mul_pos hc hd
    simp only [Bool.false_eq_true, if_false, if_true, Int.neg_mul, ← e1, ← e2]
    rw [if_neg (by simp), if_pos (by omega)]
  · simp only [if_true, Int.neg_mul, ← e1, ← e2]
    by_cases g1 : a * d < c * b
    · rw [if_pos g1, if_neg (by omega), if_neg (by omega)]; rfl
    · rw [if_neg g1]
      by_cases g2 : a * d = c * b
      · rw [if_pos g2, if_neg (by omega), if_pos (by omega)]; rfl
      · rw [if_neg g2, if_pos (by omega)]
theorem rep_cmp {x y : F} {z z' : Int} {d d' : Nat} (h : Rep x z d) (k : Rep y z' d') : cmpF x y = (if z * d' < z' * d then -1 else if z * d' = z' * d then 0 else 1, 0) := by
  obtain ⟨hd, s, a, b, rfl, hk, h1⟩ := h
  obtain ⟨hd', s', a', b', rfl, hk', h2⟩ := k
  rw [cmpF_yes ⟨validF_fr.2 hk, validF_fr.2 hk'⟩]
  show (ordN s (val (limbs a)) (val (limbs b)) s' (val (limbs a')) (val (limbs b')), (0 : Int)) = _
  rw [val_limbs, val_limbs, val_limbs, val_limbs, ordN_sg _ _ _ _ _ _ hk.pos hk'.pos hk.sign hk'.sign]
  have hb : (0 : Int) < b := by have := hk.pos; omega
  have hb' : (0 : Int) < b' := by have := hk'.pos; omega
  have hP : (0 : Int) < (d : Int) * d' := Int.mul_pos (by omega) (by omega)
  have hQ : (0 : Int) < (b : Int) * b' := Int.mul_pos hb hb'
  have e : (sg s a * b' - sg s' a' * b) * (d * d') = (z * d' - z' * d) * (b * b') := by grind
  have l1 : (sg s a * b' < sg s' a' * b ↔ z * d' < z' * d) := by
    constructor
    · intro h
      have : (sg s a * b' - sg s' a' * b) * (d * d') < 0 := Int.mul_neg_of_neg_of_pos (by omega) hP
      rw [e] at this
      rcases Int.lt_or_le (z * d') (z' * d) with g | g
      · exact g
      · have : 0 ≤ (z * d' - z' * d) * (b * b') := Int.mul_nonneg (by omega) (by omega)
        omega
    · intro h
      have : (z * d' - z' * d) * (b * b') < 0 := Int.mul_neg_of_neg_of_pos (by omega) hQ
      rw [← e] at this
      rcases Int.lt_or_le (sg s a * b') (sg s' a' * b) with g | g
      · exact g
      · have : 0 ≤ (sg s a * b' - sg s' a' * b) * (d * d') := Int.mul_nonneg (by omega) (by omega)
        omega
  have l2 : (sg s a * b' = sg s' a' * b ↔ z * d' = z' * d) := by
    constructor
    · intro h
      have : (z * d' - z' * d) * (b * b') = 0 := by rw [← e, h]; simp
      rcases Int.mul_eq_zero.1 this with g | g <;> omega
    · intro h
      have : (sg s a * b' - sg s' a' * b) * (d * d') = 0 := by rw [e, h]; simp
      rcases Int.mul_eq_zero.1 this with g | g <;> omega
  simp only [l1, l2]
end Go.Proofs.Ytebmegodeglobaa

namespace Go.Proofs.Ytebmegodeglobaa
open Go.RowKit

/-- The tail at k, at the rate j / den, is above the bound x / y. -/
def UpB (n k x y den j : Nat) : Prop := den ^ n * x < tl j (den - j) n k * y
theorem upB_red {n k x y den j g a b : Nat} (hg : 0 < g) (hj : j = g * a) (hd : den = g * b) (hab : a ≤ b) : UpB n k x y den j ↔ (a + (b - a)) ^ n * x < tl a (b - a) n k * y := by
  subst hj; subst hd
  unfold UpB
  have e1 : g * b - g * a = g * (b - a) := by rw [Nat.mul_sub]
  have e2 : a + (b - a) = b := by omega
  rw [e1, tl_scale, Nat.mul_pow, e2, Nat.mul_assoc, Nat.mul_assoc]
  exact Nat.mul_lt_mul_left (Nat.pow_pos hg)
theorem of_rate {j den : Nat} (hd : 0 < den) (hj : j ≤ den) (hb : den ≤ 1000) : ∃ g a b, 0 < g ∧ j = g * a ∧ den = g * b ∧ a ≤ b ∧ 0 < b ∧ b ≤ 1000 ∧ ofF (j : Int) (den : Int) = (fr false a b, 0) := by
  have hg : 0 < Nat.gcd j den := Nat.gcd_pos_of_pos_right _ hd
  obtain ⟨a, ha⟩ := Nat.gcd_dvd_left j den
  obtain ⟨b, hb'⟩ := Nat.gcd_dvd_right j den
  have e1 : j / Nat.gcd j den = a := Nat.div_eq_of_eq_mul_right hg ha
  have e2 : den / Nat.gcd j den = b := Nat.div_eq_of_eq_mul_right hg hb'
  have hle : a ≤ b := by rw [← e1, ← e2]; exact Nat.div_le_div_right hj
  have hb0 : 0 < b := by
    rcases Nat.eq_zero_or_pos b with h | h
    · rw [h, Nat.mul_zero] at hb'; omega
    · exact h
  have hb1 : b ≤ 1000 := by rw [← e2]; exact Nat.le_trans (Nat.div_le_self _ _) hb
  refine ⟨Nat.gcd j den, a, b, hg, ha, hb', hle, hb0, hb1, ?_⟩
  have l1 : (limbs a).length ≤ 2 := limbs_mid (by omega)
  have l2 : (limbs b).length ≤ 2 := limbs_mid (by omega)
  unfold ofF
  rw [if_neg (by omega)]
  have e3 : (!(decide ((j : Int) < 0) == decide ((den : Int) < 0))) = false := by
    have h1 : ¬ ((j : Int) < 0) := by omega
    have h2 : ¬ ((den : Int) < 0) := by omega
    simp [h1, h2]
  rw [e3]
  show made false j den = _
  unfold made
  rw [e1, e2, if_neg (by omega)]
  rfl

end Go.Proofs.Ytebmegodeglobaa

namespace Go.Proofs.Ytebmegodeglobaa
open Go.RowKit

end Go.Proofs.Ytebmegodeglobaa
