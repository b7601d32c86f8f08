/- Walks of the reference's tails: Rate.
   Memory words, more: rows of numbers.
   Walks of the reference's tails: choose.
   Walks of the reference's tails: Choose, numerator, tail. -/
import Derived.Test.YtppehiajocgiiaaK17
import Derived.Test.YtppehiajocgiiaaK09
import Derived.Test.YtppehiajocgiiaaK15
import Derived.Test.YtppehiajocgiiaaK11
set_option linter.unusedVariables false
namespace Go.Proofs.Ytppehiajocgiiaa
open Go.RowKit

theorem CmpS.gt {m n : Nat} {r : Int} (h : CmpS (limbs m) (limbs n) r) : 0 < r ↔ n < m := by
  have := h.le
  constructor
  · intro h1; rcases Nat.lt_or_ge n m with h2 | h2
    · exact h2
    · have := this.2 h2; omega
  · intro h1; rcases Int.lt_or_le 0 r with h2 | h2
    · exact h2
    · have := this.1 h2; omega

set_option maxRecDepth 100000 in
set_option maxHeartbeats 1000000 in
theorem Rate_c (w : World) (v : Value) (x : F) (h : IsF w v x) : Calls Try.prog 43 #[v] w (RetE w (rateE x)) := by
  have HX := h
  obtain ⟨va, vb, rfl, h1, h2⟩ := h
  obtain ⟨W0, hW, bx, hsz, hb0⟩ := start1 w #[.bool x.neg, va, vb] 25
  obtain ⟨c0, c1, c2⟩ := bx.cells3
  have H1 := Lib.hid (HX.after hb0)
  have H2 := Lib.hid (h2.after hb0)
  have HB0 := Lib.hid hb0
  have BX := Lib.hid bx
  clear HX bx hb0 h1 h2
  by_cases hv : ValidF x
  · have hv' := Lib.hid hv
    have hz : Hid (fracE x = 0 ∨ fracE x = 2) := by
      show _ ∨ _
      rw [fracE_yes hv]
      split
      · exact .inr rfl
      · exact .inl rfl
    have hden : Hid (x.den = limbs (val x.den)) := hv.2.1
    have hgood : Hid (fracE x = 0 → rateE x = if 1000 < val x.den then 2 else 0) := fun h => rateE_good h
    have hbad : Hid (fracE x ≠ 0 → rateE x = fracE x) := fun h => rateE_bad h
    clear hv
    go_enter Try.func43, Try.ntmps43
    go_upto_region 1 with fail
    rw [← hW]
    clear hW
    go_wp2_with fail
    refine (RValid_c _ _ _ H1.out).mono ?_
    intro e w1 hr
    obtain ⟨rfl, hb1⟩ := hr.yes hv'.out
    obtain ⟨c0', c1', c2'⟩ := (BX.out.after hb1).cells3
    have K1 := Lib.hid (H1.out.after hb1)
    have K2 := Lib.hid (H2.out.after hb1)
    have KW := Lib.hid (HB0.out.trans (hb1.mono HB0.out.size))
    have mkS : Hid (∀ w', Below w1.heap.size w1 w' → w'.cell? ⟨w.heap.size, 0, none⟩ = some (.bool x.neg) ∧ w'.cell? ⟨w.heap.size, 1, none⟩ = some va ∧ w'.cell? ⟨w.heap.size, 2, none⟩ = some vb) :=
      fun w' hb => ⟨keep_cell hb c0', keep_cell hb c1', keep_cell hb c2'⟩
    clear hr hb1 c0 c1 c2 H1 H2 c0' c1' c2'
    go_upto_region 3 with fail
    by_cases hf : fracE x = 0
    · have HF := Lib.hid hf
      clear hf
      go_region_held3 (fun w' => w'.cell? ⟨w.heap.size, 0, none⟩ = some (.bool x.neg) ∧ w'.cell? ⟨w.heap.size, 1, none⟩ = some va ∧ w'.cell? ⟨w.heap.size, 2, none⟩ = some vb)
        (first | (refine mkS.out _ ?_; (repeat (first | with_reducible exact hk4 | with_reducible exact hk3 | with_reducible exact hk2 | with_reducible exact Below.refl _ _ | with_reducible refine below_dr ?_)); done))
        (first
         | (go_at_call 73; refine (between_f _ _ x ?_ hv'.out).mono ?_; exact K1.out.after (below_dr (Below.refl _ w1)); intro e w2 hr; obtain ⟨rfl, hb2⟩ := hr.yes HF.out; have hk2 := below_of_drew hb2; clear hr)
         | (go_at_call 74; refine (From_c 1000 (by omega) _).mono ?_; rintro e w3 ⟨v3, rfl, hv3, hb3⟩; have hk3 := hk2.trans (hb3.mono hk2.size))
         | (go_at_call 39; refine (Compare_c _ _ _ _ _ (K2.out.after hk3) hv3).mono ?_; rintro e w4 ⟨r, rfl, hr, n4, rfl⟩; have hk4 := hk3.trans (below_drewN _ n4 _)))
      have HK4 := Lib.hid (KW.out.trans (hk4.mono KW.out.size))
      have hcmp : 0 < r ↔ 1000 < val x.den := by
        have hd := hden.out
        rw [hd] at hr
        exact hr.gt
      have HC := Lib.hid hcmp
      clear hk2 hk3 hk4 hb2 hb3 hv3 hr hcmp mkS
      by_cases hpos : 0 < r
      · have hs : Hid (rateE x = 2) := by show _ = _; rw [hgood.out HF.out, if_pos (HC.out.1 hpos)]
        go_wp2_with fail
        go_ret
        exact ⟨ret_int (by rw [hs.out]), HK4.out⟩
      · have hs : Hid (rateE x = 0) := by show _ = _; rw [hgood.out HF.out, if_neg (fun h => hpos (HC.out.2 h))]
        go_wp2_with fail
        go_ret
        exact ⟨ret_int (by rw [hs.out]), HK4.out⟩
    · have HF := Lib.hid hf
      have hs : Hid (rateE x = 2) := by show _ = _; rw [hbad.out hf]; exact hz.out.resolve_left hf
      clear hf
      obtain ⟨c0', c1', c2'⟩ := mkS.out w1 (Below.refl _ _)
      first
       | (go_region_with (first
         | (go_at_call 73; refine (between_f _ _ x ?_ hv'.out).mono ?_; exact K1.out.after (below_dr (Below.refl _ w1)); intro e w2 hr; obtain ⟨rfl, hb2⟩ := hr.no HF.out; have hk2 := below_of_drew hb2; clear hr)))
       | (fail)
      all_goals
        (have HK4 := Lib.hid (KW.out.trans (hk2.mono KW.out.size))
         clear hk2 hb2
         (try (go_wp2_with fail))
         go_ret
         exact ⟨ret_int (by rw [hs.out]), HK4.out⟩)
  · have hs := Lib.hid (rateE_bad (x := x) (by rw [fracE_no hv]; omega))
    have hs2 := Lib.hid (fracE_no hv)
    have hv' := Lib.hid hv
    clear hv
    go_enter Try.func43, Try.ntmps43
    go_upto_region 1 with fail
    rw [← hW]
    clear hW
    go_wp2_with fail
    refine (RValid_c _ _ _ H1.out).mono ?_
    intro e w1 hr
    obtain ⟨rfl, hb1⟩ := hr.no hv'.out
    have KW := Lib.hid (HB0.out.trans (hb1.mono HB0.out.size))
    clear hr hb1 c0 c1 c2 H1
    go_wp2_with fail
    go_ret
    exact ⟨ret_int (by rw [hs.out, hs2.out]), KW.out⟩
end Go.Proofs.Ytppehiajocgiiaa

namespace Go.Proofs.Ytppehiajocgiiaa
open Go.RowKit

theorem infoN : (Try.prog.info? 23).map (fun i => (i.zero, i.size, i.bytes)) = some (some (.slice none 0 0), 1, 24) := by kernel_rfl
/-- A cell holds the number n. -/
def HasN (w : World) (b off n : Nat) : Prop := ∃ v, w.cell? ⟨b, off, none⟩ = some v ∧ Sl w v (limbs n)
theorem HasN.after {w w' : World} {b off n : Nat} (h : HasN w b off n) (hb : Below w.heap.size w w') : HasN w' b off n := by
  obtain ⟨v, h1, h2⟩ := h
  exact ⟨v, keep_cell hb h1, h2.after hb⟩
/-- The cells of block b from 0 on hold the numbers xs. -/
def RowN (w : World) (b : Nat) (xs : List Nat) : Prop := ∀ (i x : Nat), xs[i]? = some x → HasN w b i x
theorem RowN.after {w w' : World} {b : Nat} {xs : List Nat} (h : RowN w b xs) (hb : Below w.heap.size w w') : RowN w' b xs := fun i x hx => (h i x hx).after hb
theorem RowN.grown {w w' : World} {b : Nat} {xs : List Nat} {row : Option Nat} (h : RowN w b xs) (hg : w.grownBy w' row) (hne : some b ≠ row) (hr : ∀ g, row = some g → ¬ Tag32 w g) : RowN w' b xs := by
  intro i x hx
  obtain ⟨v, h1, h2⟩ := h i x hx
  exact ⟨v, hg.cell h1 hne, h2.grown hg hr⟩
/-- What the entries es of a row stand for. -/
def EntsN (w : World) (es : List Value) (xs : List Nat) : Prop := es.length = xs.length ∧ ∀ (i x : Nat), xs[i]? = some x → ∃ v, es[i]? = some v ∧ Sl w v (limbs x)
theorem EntsN.after {w w' : World} {es : List Value} {xs : List Nat} (h : EntsN w es xs) (hb : Below w.heap.size w w') : EntsN w' es xs :=
  ⟨h.1, fun i x hx => by obtain ⟨v, h1, h2⟩ := h.2 i x hx; exact ⟨v, h1, h2.after hb⟩⟩
theorem EntsN.grown {w w' : World} {es : List Value} {xs : List Nat} {row : Option Nat} (h : EntsN w es xs) (hg : w.grownBy w' row) (hr : ∀ g, row = some g → ¬ Tag32 w g) : EntsN w' es xs :=
  ⟨h.1, fun i x hx => by obtain ⟨v, h1, h2⟩ := h.2 i x hx; exact ⟨v, h1, h2.grown hg hr⟩⟩
theorem EntsN.nil (w : World) : EntsN w [] [] := ⟨rfl, fun i x h => by simp at h⟩
theorem EntsN.snoc {w : World} {es : List Value} {xs : List Nat} {x : Nat} {v : Value} (h : EntsN w es xs) (h1 : Sl w v (limbs x)) : EntsN w (es ++ [v]) (xs ++ [x]) := by
  refine ⟨by simp [h.1], fun i y hy => ?_⟩
  rcases Nat.lt_or_ge i xs.length with hi | hi
  · rw [List.getElem?_append_left hi] at hy
    obtain ⟨a, e1, e2⟩ := h.2 i y hy
    exact ⟨a, by rw [List.getElem?_append_left (by rw [h.1]; exact hi)]; exact e1, e2⟩
  · rw [List.getElem?_append_right hi] at hy
    have hi0 : i - xs.length = 0 := by
      rcases Nat.eq_zero_or_pos (i - xs.length) with h0 | h0
      · exact h0
      · rw [List.getElem?_eq_none (by simp; omega)] at hy; cases hy
    rw [hi0] at hy
    obtain rfl : x = y := by simpa using hy
    exact ⟨v, by rw [List.getElem?_append_right (by rw [h.1]; exact hi), h.1, hi0]; rfl, h1⟩
theorem ownsRow_one1 (w : World) {base : Nat} (t : TypeId) (hb : base ≤ w.heap.size) (x : Value) : (w.alloc (.cells #[x] t)).ownsRow base t 1 (.slice (some ⟨w.heap.size, 0, none⟩) 1 1) 1 [x] :=
  ⟨rfl, .inr ⟨w.heap.size, 1, #[x], rfl, hb, heap_alloc_new w _, Nat.le_refl _, by simp [maxLen], rfl, rfl⟩⟩
/-- An owned row of numbers reads as numbers. -/
theorem RowN.of_own {w : World} {base n m g cap : Nat} {t : TypeId} {es : List Value} {xs : List Nat} (h : w.ownsRow base t 1 (.slice (some ⟨g, 0, none⟩) m cap) n es) (he : EntsN w es xs) : RowN w g xs := by
  intro i x hx
  obtain ⟨v, e1, e2⟩ := he.2 i x hx
  have hc := h.cells (g := g) rfl
  have hadd : ∀ j, (⟨g, 0, none⟩ : Addr).add j = ⟨g, j, none⟩ := fun j => by unfold Addr.add; split <;> simp_all
  have c0 := hc _ _ e1
  rw [hadd] at c0
  exact ⟨v, c0, e2⟩
/-- Row i of Pascal's triangle up to place j. -/
def pasc (i j : Nat) : List Nat := (List.range j).map (ch i)
theorem pasc_len (i j : Nat) : (pasc i j).length = j := by unfold pasc; simp
theorem pasc_get {i j k : Nat} (h : k < j) : (pasc i j)[k]? = some (ch i k) := by
  unfold pasc; rw [List.getElem?_map, List.getElem?_range h]; rfl
theorem pasc_succ (i j : Nat) : pasc i j ++ [ch i j] = pasc i (j + 1) := by
  unfold pasc; rw [List.range_succ, List.map_append]; rfl
theorem pasc_one (i : Nat) : pasc i 1 = [1] := by
  show [ch i 0] = [1]
  rw [ch_zero]
theorem keep3z {W : World} {R X : Nat} {u0 u1 u2 a b c : Value} (h : R ≠ X) (hs : W.cell? ⟨X, 0, none⟩ = some a ∧ W.cell? ⟨X, 1, none⟩ = some b ∧ W.cell? ⟨X, 2, none⟩ = some c) :
    (((W.setCell ⟨R, 0, none⟩ u0).setCell ⟨R, 1, none⟩ u1).setCell ⟨R, 2, none⟩ u2).cell? ⟨X, 0, none⟩ = some a ∧ (((W.setCell ⟨R, 0, none⟩ u0).setCell ⟨R, 1, none⟩ u1).setCell ⟨R, 2, none⟩ u2).cell? ⟨X, 1, none⟩ = some b ∧
    (((W.setCell ⟨R, 0, none⟩ u0).setCell ⟨R, 1, none⟩ u1).setCell ⟨R, 2, none⟩ u2).cell? ⟨X, 2, none⟩ = some c := by
  have k : ∀ j, (((W.setCell ⟨R, 0, none⟩ u0).setCell ⟨R, 1, none⟩ u1).setCell ⟨R, 2, none⟩ u2).cell? ⟨X, j, none⟩ = W.cell? ⟨X, j, none⟩ := fun j => by
    rw [World.cell?_setCell_other _ _ _ _ (fun e => h (by injection e)), World.cell?_setCell_other _ _ _ _ (fun e => h (by injection e)), World.cell?_setCell_other _ _ _ _ (fun e => h (by injection e))]
  exact ⟨(k 0).trans hs.1, (k 1).trans hs.2.1, (k 2).trans hs.2.2⟩
end Go.Proofs.Ytppehiajocgiiaa

namespace Go.Proofs.Ytppehiajocgiiaa
open Go.RowKit

theorem rsum_n (w : World) (va vb : Value) (a b : Nat) (h : Sl w va (limbs a)) (k : Sl w vb (limbs b)) (ha : (limbs a).length ≤ 1000000) (hb : (limbs b).length ≤ 1000000) :
    Calls Try.prog 66 #[va, vb] w (RetNat w (a + b)) := by
  have := Sum_c w va vb _ _ h k ha hb; rwa [val_limbs, val_limbs] at this

theorem lit_one (w : World) : Sl (w.alloc (.cells #[.int .u32 1] 49)) (.slice (some ⟨w.heap.size, 0, none⟩) 1 1) (limbs 1) := by
  rw [limbs_one]
  exact Sl.of_row (l := [1]) (Row32.lit1 w 1 1 rfl) (Lb.cons (by omega) Lb.nil) (by simp) (by omega)
theorem ownsRow_le {w : World} {base b n size : Nat} {t : TypeId} {v : Value} {xs : List Value} (h : w.ownsRow base t size v n xs) (hb : b ≤ base) : w.ownsRow b t size v n xs := by
  refine ⟨h.1, ?_⟩
  rcases h.2 with h1 | ⟨g, cap, cur, h1, h2, h3⟩
  · exact .inl h1
  · exact .inr ⟨g, cap, cur, h1, Nat.le_trans hb h2, h3⟩
/-- A row of one number 1. -/
theorem lit_row (w : World) (base : Nat) (hb : base ≤ w.heap.size) (i : Nat) : ((w.alloc (.cells #[.int .u32 1] 49)).alloc (.cells #[.slice (some ⟨w.heap.size, 0, none⟩) 1 1] 23)).ownsRow base 23 1 (.slice (some ⟨w.heap.size + 1, 0, none⟩) 1 1) 1 [.slice (some ⟨w.heap.size, 0, none⟩) 1 1] ∧
    EntsN ((w.alloc (.cells #[.int .u32 1] 49)).alloc (.cells #[.slice (some ⟨w.heap.size, 0, none⟩) 1 1] 23)) [.slice (some ⟨w.heap.size, 0, none⟩) 1 1] (pasc i 1) := by
  constructor
  · have := ownsRow_one1 (w.alloc (.cells #[.int .u32 1] 49)) (base := base) 23 (by simp; omega) (.slice (some ⟨w.heap.size, 0, none⟩) 1 1)
    simpa using this
  · rw [pasc_one]
    exact ((EntsN.nil _).snoc (lit_one w)).after ((Below.refl _ _).alloc (Nat.le_refl _) _)

set_option maxRecDepth 100000 in
set_option maxHeartbeats 4000000 in
theorem rchoose_c (w : World) (n k : Nat) (hk : k ≤ n) (hn : n ≤ 64) :
    Calls Try.prog 38 #[.int .i64 (n : Int), .int .i64 (k : Int)] w (RetNat w (ch n k)) := by
  obtain ⟨i0, hi, hz0, hz1, hz2⟩ := info_parts infoN
  have hlm : Hid (maxLen = 9223372036854775807) := rfl
  go_enter Try.func38, Try.ntmps38
  go_wp2
  go_loopg [5, 6] n (fun g o t wx => ∃ (i gg cap : Nat) (es : List Value), i ≤ n ∧ g = n - i ∧ t = .int .i64 (i : Int) ∧ o = .slice (some ⟨gg, 0, none⟩) (i + 1) cap ∧ Hid (wx.ownsRow w.heap.size 23 1 (.slice (some ⟨gg, 0, none⟩) (i + 1) cap) (i + 1) es) ∧ Hid (EntsN wx es (pasc i (i + 1))) ∧ Hid (Below w.heap.size w wx))
  case atStart =>
    obtain ⟨h1, h2⟩ := lit_row w w.heap.size (Nat.le_refl _) 0
    exact ⟨0, _, _, _, Nat.zero_le _, rfl, rfl, rfl, h1, h2, ((Below.refl _ w).alloc (Nat.le_refl _) _).alloc (by simp) _⟩
  case round =>
    obtain ⟨i, gg, cap, es, hile, rfl, rfl, rfl, hown, hE, hbl⟩ := hrel
    by_cases hlt : i < n
    · obtain ⟨wo, rfl⟩ : ∃ wo : World, wo = wr := ⟨_, rfl⟩
      have hRow := Lib.hid (RowN.of_own hown.out hE.out)
      have hgl : gg < wo.heap.size := (hown.out.lt gg rfl).2
      have hsz := hbl.out.size
      obtain ⟨hO2, hE2⟩ := lit_row wo wo.heap.size (Nat.le_refl _) (i + 1)
      have hbw : Below wo.heap.size wo ((wo.alloc (.cells #[.int .u32 1] 49)).alloc (.cells #[.slice (some ⟨wo.heap.size, 0, none⟩) 1 1] 23)) := ((Below.refl _ wo).alloc (Nat.le_refl _) _).alloc (by simp) _
      have HR2 := Lib.hid (hRow.out.after hbw)
      have HO2 := Lib.hid hO2
      have HE2 := Lib.hid hE2
      have HBW := Lib.hid hbw
      clear hown hE hO2 hE2 hbw
      go_wp2
      go_loopg [7, 8] i (fun g o t wi => ∃ (j g2 cap2 : Nat) (es2 : List Value), j ≤ i ∧ g = i - j ∧ t = .int .i64 ((j : Int) + 1) ∧ o = .slice (some ⟨g2, 0, none⟩) (j + 1) cap2 ∧ Hid (wi.ownsRow wo.heap.size 23 1 (.slice (some ⟨g2, 0, none⟩) (j + 1) cap2) (j + 1) es2) ∧ Hid (EntsN wi es2 (pasc (i + 1) (j + 1))) ∧ Hid (RowN wi gg (pasc i (i + 1))) ∧ Hid (Below wo.heap.size wo wi))
      case atStart => exact ⟨0, _, _, _, Nat.zero_le _, rfl, rfl, rfl, HO2.out, HE2.out, HR2.out, HBW.out⟩
      case round =>
        obtain ⟨j, g2, cap2, es2, hki, rfl, rfl, rfl, hown, hE, hR, hb2⟩ := hrel
        clear HR2 HO2 HE2 HBW
        by_cases hlk : j < i
        · obtain ⟨va, hva, hsa⟩ := hR.out j _ (pasc_get (by omega))
          obtain ⟨vb, hvb, hsb⟩ := hR.out (j + 1) _ (pasc_get (by omega))
          obtain ⟨pa, ca, rfl, _, _⟩ := hsa.shape
          obtain ⟨pb, cb, rfl, _, _⟩ := hsb.shape
          have hS1 := Lib.hid hsa
          have hS2 := Lib.hid hsb
          have hl1 : Hid ((limbs (ch i j)).length ≤ 1000000) := by show _ ≤ _; have := ch_limbs (n := i) (k := j) (by omega); omega
          have hl2 : Hid ((limbs (ch i (j + 1))).length ≤ 1000000) := by show _ ≤ _; have := ch_limbs (n := i) (k := j + 1) (by omega); omega
          have hgr : gg < wr.heap.size := by have := hb2.out.size; omega
          have hg2 := hown.out.lt g2 rfl
          have hsum : IntKind.i64.wrap (((j : Int) + 1) - 1) = (j : Int) := by rw [wrap_in (by omega) (by omega)]; omega
          have hsum0 : IntKind.i64.wrap (j : Int) = (j : Int) := wrap_in (by omega) (by omega)
          have hk0 : (0 : Int) ≤ (j : Int) := Int.natCast_nonneg _
          have hk1 : (j : Int) < (i : Int) + 1 := by omega
          have hk2 : (0 : Int) ≤ (j : Int) + 1 := by omega
          have hk3 : (j : Int) + 1 < (i : Int) + 1 := by omega
          have hk4 : ((j : Int) + 1).toNat = j + 1 := by omega
          clear hsa hsb
          go_upto_region 2 with fail
          go_region_held3 (fun w' => w'.cell? ⟨gg, j, none⟩ = some (.slice pa (limbs (ch i j)).length ca) ∧ w'.cell? ⟨gg, j + 1, none⟩ = some (.slice pb (limbs (ch i (j + 1))).length cb))
            (first
             | go_keep
             | (exact ⟨keep_cell hbA hva, keep_cell hbA hvb⟩)
             | (exact ⟨keep_cell hbB hva, keep_cell hbB hvb⟩)
             | (exact ⟨hgrow.cell (keep_cell hbB hva) hne, hgrow.cell (keep_cell hbB hvb) hne⟩))
            (first
             | (go_at_call 66; refine (rsum_n _ _ _ (ch i j) (ch i (j + 1)) ?_ ?_ hl1.out hl2.out).mono ?_; exact hS1.out.after (below_dr (Below.refl _ wr)); exact hS2.out.after (below_dr (Below.refl _ wr)); rintro e w3 ⟨v3, rfl, hv3, hb3⟩; obtain ⟨p3, c3, rfl, _, _⟩ := hv3.shape; have hbA := below_of_drew hb3; have hbB := hbA.alloc hbA.size (.cells #[.slice p3 (limbs (ch i j + ch i (j + 1))).length c3] 23))
             | (refine step_append_lies _ (by rfl) _ _ _ (by rfl) wo.heap.size 23 i0 _ 1 24 Try.underlying84 hi hz0 hz1 hz2 rfl (by omega) (.slice (some ⟨g2, 0, none⟩) (j + 1) cap2) (j + 1) es2 (by rfl) (ownsRow_after hown.out hbB) ⟨w3.heap.size, 0, none⟩ 1 1 [.slice p3 (limbs (ch i j + ch i (j + 1))).length c3] (by rfl) (by rfl) (World.news_of_block (cs := #[.slice p3 (limbs (ch i j + ch i (j + 1))).length c3]) (t := 23) (fr := (0, 0)) (heap_alloc_new w3 _)) (by simp [Value.oneCell']) (by omega) (by rw [hlm.out]; omega) (by omega) (by have := hbA.size; simp; omega) (w3.heap.size + 1) (by simp) ?_; intro g3 cap3 w5 hown5 hgrow hat hlt5; have hne : some gg ≠ (Value.slice (some ⟨g2, 0, none⟩) (j + 1) cap2).ownBlock := fun e => by have := congrArg (Option.getD · 0) e; simp [Value.ownBlock] at this; omega))
          have htag := ownsRow_tag (ownsRow_after hown.out hbB) (show 23 ≠ 49 by decide)
          have hE5 : Hid (EntsN w5 (es2 ++ [.slice p3 (limbs (ch i j + ch i (j + 1))).length c3]) (pasc (i + 1) (j + 1) ++ [ch (i + 1) (j + 1)])) := by
            show EntsN _ _ _
            rw [ch_succ]
            exact ((hE.out.after hbB).grown hgrow htag).snoc ((hv3.alloc _).grown hgrow htag)
          have hR5 := Lib.hid ((hR.out.after hbB).grown hgrow hne htag)
          have hO5 := Lib.hid hown5
          have hW5 : Hid (Below wo.heap.size wo w5) := (hb2.out.trans (hbB.mono hb2.out.size)).grown hgrow (by have := hb2.out.size; have := hbB.size; omega) (fun k hk => (hown.out.lt k hk).1)
          clear hown5 hgrow hat hbA hbB hb3 hv3 htag hva hvb hne hsum hsum0 hk4
          go_wp2_with fail
          go_roundg (i - (j + 1))
          case measure => omega
          case rel => exact ⟨j + 1, g3, cap3, _, hlk, rfl, by go_num, rfl, hO5.out, (pasc_succ _ _) ▸ hE5.out, hR5.out, hW5.out⟩
        · obtain rfl : j = i := by omega
          have hW2 : Hid (Below w.heap.size w wr) := hbl.out.trans (hb2.out.mono hsz)
          have hg2 := hown.out.lt g2 rfl
          have hsz2 := hb2.out.size
          go_wp2_with (at_builtin; refine wpList_append_own _ rfl _ _ 84 rfl wo.heap.size 23 i0 (.slice none 0 0) 1 24 Try.underlying84 hi hz0 hz1 hz2 rfl (by decide) _ _ _ rfl ((hown.out.alloc _).alloc _) ⟨wr.heap.size + 1, 0, none⟩ 1 1 [.slice (some ⟨wr.heap.size, 0, none⟩) 1 1] rfl rfl ?c1 ?c2 ?c3 ?c4 ?c5 ?_)
          case c1 => exact World.news_of_block (cs := #[.slice (some ⟨wr.heap.size, 0, none⟩) 1 1]) (t := 23) (fr := (0, 0)) (by have := heap_alloc_new (wr.alloc (.cells #[.int .u32 1] 49)) (.cells #[.slice (some ⟨wr.heap.size, 0, none⟩) 1 1] 23); simpa using this)
          case c2 => simp [Value.oneCell']
          case c3 => rw [hlm.out]; omega
          case c4 => omega
          case c5 => simp; omega
          intro v' w5 hown5 hgrow _
          obtain ⟨g3, cap3, rfl⟩ := own_shape hown5
          have hbB : Below wr.heap.size wr ((wr.alloc (.cells #[.int .u32 1] 49)).alloc (.cells #[.slice (some ⟨wr.heap.size, 0, none⟩) 1 1] 23)) := ((Below.refl _ wr).alloc (Nat.le_refl _) _).alloc (by simp) _
          have htag := ownsRow_tag (ownsRow_after hown.out hbB) (show 23 ≠ 49 by decide)
          have hE5 : Hid (EntsN w5 (es2 ++ [.slice (some ⟨wr.heap.size, 0, none⟩) 1 1]) (pasc (j + 1) (j + 1) ++ [ch (j + 1) (j + 1)])) := by
            show EntsN _ _ _
            rw [ch_self]
            exact ((hE.out.after hbB).grown hgrow htag).snoc (((lit_one wr).alloc _).grown hgrow htag)
          have hO5 : Hid (w5.ownsRow w.heap.size 23 1 (.slice (some ⟨g3, 0, none⟩) (j + 1 + 1) cap3) (j + 1 + 1) (es2 ++ [.slice (some ⟨wr.heap.size, 0, none⟩) 1 1])) := ownsRow_le hown5 hsz
          have hW5 : Hid (Below w.heap.size w w5) := (hW2.out.trans (hbB.mono hW2.out.size)).grown hgrow (by have := hbB.size; omega) (fun k hk => by have := (hown.out.lt k hk).1; omega)
          clear hown5 hgrow hbB htag
          go_wp2_with fail
          go_roundg (n - (j + 1))
          case measure => omega
          case rel => exact ⟨j + 1, g3, cap3, _, hlt, rfl, by go_num, rfl, hO5.out, (pasc_succ _ _) ▸ hE5.out, hW5.out⟩
    · obtain rfl : i = n := by omega
      obtain ⟨va, hva, hsa⟩ := (RowN.of_own hown.out hE.out) k _ (pasc_get (by omega))
      obtain ⟨pa, ca, rfl, _, _⟩ := hsa.shape
      have hS := Lib.hid hsa
      have hk0 : (0 : Int) ≤ (k : Int) := Int.natCast_nonneg _
      have hk1 : (k : Int) < (i : Int) + 1 := by omega
      clear hsa
      go_wp2_with fail
      go_ret
      exact ⟨_, rfl, hS.out, hbl.out⟩
end Go.Proofs.Ytppehiajocgiiaa

namespace Go.Proofs.Ytppehiajocgiiaa
open Go.RowKit

set_option maxRecDepth 100000 in
set_option maxHeartbeats 1000000 in
theorem rChoose_c (w : World) (n k : Int) : Calls Try.prog 13 #[.int .i64 n, .int .i64 k] w (RetN w (chooseF n k)) := by
  by_cases ht : trialsB n k n = true
  · obtain ⟨h1, h2, h3, h4⟩ := trialsB_iff.1 ht
    obtain ⟨N, rfl⟩ : ∃ N : Nat, n = N := ⟨n.toNat, by omega⟩
    obtain ⟨K, rfl⟩ : ∃ K : Nat, k = K := ⟨k.toNat, by omega⟩
    have hs : Hid (chooseF (N : Int) (K : Int) = (limbs (ch N K), 0)) := by show _ = _; unfold chooseF; rw [if_pos ht]; simp
    have ht' := Lib.hid ht
    clear ht
    go_enter Try.func13, Try.ntmps13
    go_wp2_with fail
    refine (rtrials_c _ _ _ _).mono ?_
    rw [ht'.out]
    rintro e w' ⟨rfl, rfl⟩
    go_wp2_with fail
    refine (rchoose_c _ N K (by omega) (by omega)).mono ?_
    rintro e w1 ⟨v1, rfl, ha, hb1⟩
    obtain ⟨p, cp, rfl, _, _⟩ := ha.shape
    have HA := Lib.hid ha
    have HB := Lib.hid hb1
    clear ha hb1
    go_wp2_with fail
    go_ret2
    rw [hs.out]
    exact ⟨_, rfl, HA.out, HB.out⟩
  · have hf : trialsB n k n = false := by simpa using ht
    have hs : Hid (chooseF n k = ([], 2)) := by show _ = _; unfold chooseF; rw [if_neg ht]
    have ht' := Lib.hid hf
    clear ht hf
    go_enter Try.func13, Try.ntmps13
    go_wp2_with fail
    refine (rtrials_c _ _ _ _).mono ?_
    rw [ht'.out]
    rintro e w' ⟨rfl, rfl⟩
    go_wp2_with fail
    go_ret2
    rw [hs.out]
    exact ⟨_, rfl, Sl.nil _, Below.refl _ _⟩

theorem rdiff_n (w : World) (va vb : Value) (a b : Nat) (h : Sl w va (limbs a)) (k : Sl w vb (limbs b)) (hle : b ≤ a) (ha : (limbs a).length ≤ 1000000) :
    Calls Try.prog 78 #[va, vb] w (RetNat w (a - b)) := by
  have := Diff_c w va vb _ _ h k (limbs_len_mono hle) (by rw [val_limbs, val_limbs]; exact hle) ha; rwa [val_limbs, val_limbs] at this
theorem limbs_1000 {a : Nat} (h : a ≤ 1000) : (limbs a).length ≤ 1 := limbs_len_lt (by omega)

set_option maxRecDepth 100000 in
set_option maxHeartbeats 2000000 in
theorem numerator_c (w : World) (v : Value) (n k a b : Nat) (h : IsF w v (fr false a b)) (hk : k ≤ n) (hn : n ≤ 64) (hab : a ≤ b) (hb1 : b ≤ 1000) :
    Calls Try.prog 45 #[.int .i64 (n : Int), .int .i64 (k : Int), v] w (RetNat w (ex a (b - a) n k)) := by
  have HX := h
  obtain ⟨va, vb, rfl, h1, h2⟩ := h
  obtain ⟨p, cp, rfl, _, _⟩ := h1.shape
  obtain ⟨q, cq, rfl, _, _⟩ := h2.shape
  obtain ⟨W0, hW, bx, hsz, hb0⟩ := start1 w #[.bool (fr false a b).neg, .slice p (fr false a b).num.length cp, .slice q (fr false a b).den.length cq] 25
  obtain ⟨c0, c1, c2⟩ := bx.cells3
  have H1 := Lib.hid (h1.after hb0)
  have H2 := Lib.hid (h2.after hb0)
  have HB0 := Lib.hid hb0
  have mkS : Hid (∀ w', Below W0.heap.size W0 w' → w'.cell? ⟨w.heap.size, 1, none⟩ = some (.slice p (fr false a b).num.length cp) ∧ w'.cell? ⟨w.heap.size, 2, none⟩ = some (.slice q (fr false a b).den.length cq)) :=
    fun w' hb => ⟨keep_cell hb c1, keep_cell hb c2⟩
  have la : Hid ((limbs a).length ≤ 64) := Nat.le_trans (limbs_1000 (by omega)) (by omega)
  have lb : Hid ((limbs b).length ≤ 1000000) := Nat.le_trans (limbs_1000 (by omega)) (by omega)
  have lc : Hid ((limbs (b - a)).length ≤ 64) := Nat.le_trans (limbs_1000 (by omega)) (by omega)
  have lak : Hid ((limbs (a ^ k)).length ≤ 1000) := Nat.le_trans (pow_limbs (by omega) (by omega)) (by omega)
  have lck : Hid ((limbs ((b - a) ^ (n - k))).length ≤ 1000) := Nat.le_trans (pow_limbs (by omega) (by omega)) (by omega)
  have hsub : IntKind.i64.wrap ((n : Int) - (k : Int)) = ((n - k : Nat) : Int) := by rw [wrap_in (by omega) (by omega)]; omega
  have HSUB := Lib.hid hsub
  have pw : Hid (∀ (w : World) (v : Value) (z : Int), z = ((n - k : Nat) : Int) → Sl w v (limbs (b - a)) → Calls Try.prog 46 #[v, .int .i64 z] w (RetNat w ((b - a) ^ (n - k)))) := by
    rintro w v z rfl h
    exact power_c w v (b - a) (n - k) h (by omega) lc.out
  clear HX bx hb0 h1 h2 c0 c1 c2 hsub
  go_enter Try.func45, Try.ntmps45
  go_upto_region 1 with fail
  rw [← hW]
  clear hW
  go_region_held3 (fun w' => w'.cell? ⟨w.heap.size, 1, none⟩ = some (.slice p (fr false a b).num.length cp) ∧ w'.cell? ⟨w.heap.size, 2, none⟩ = some (.slice q (fr false a b).den.length cq))
    (first | (refine mkS.out _ ?_; (repeat (first | with_reducible exact hk4 | with_reducible exact hk3 | with_reducible exact hk2 | with_reducible exact hk1 | with_reducible exact Below.refl _ _ | with_reducible refine below_dr ?_)); done))
    (first
     | (go_at_call_of 46 p; refine (power_c _ _ a k ?_ (by omega) la.out).mono ?_; exact H1.out.after (below_dr (Below.refl _ W0)); rintro e w1 ⟨v1, rfl, hv1, hb1⟩; obtain ⟨p1, cp1, rfl, _, _⟩ := hv1.shape; have hk1 := below_of_drew hb1)
     | (go_at_call 78; refine (rdiff_n _ _ _ b a ?_ ?_ hab lb.out).mono ?_; exact H2.out.after hk1; exact H1.out.after hk1; rintro e w2 ⟨v2, rfl, hv2, hb2⟩; obtain ⟨p2, cp2, rfl, _, _⟩ := hv2.shape; have hk2 := hk1.trans (hb2.mono hk1.size))
     | (go_at_call_of 46 p2; refine (pw.out _ _ _ ?_ hv2).mono ?_; exact HSUB.out; rintro e w3 ⟨v3, rfl, hv3, hb3⟩; obtain ⟨p3, cp3, rfl, _, _⟩ := hv3.shape; have hk3 := hk2.trans (hb3.mono hk2.size))
     | (go_at_call 77; refine (rproduct_n _ _ _ (a ^ k) ((b - a) ^ (n - k)) ?_ hv3 (Nat.le_trans lak.out (by omega)) (Nat.le_trans lck.out (by omega))).mono ?_; exact (hv1.after hb2).after hb3; rintro e w4 ⟨v4, rfl, hv4, hb4⟩; obtain ⟨p4, cp4, rfl, _, _⟩ := hv4.shape; have hk4 := hk3.trans (hb4.mono hk3.size)))
  have HV4 := Lib.hid hv4
  have HK4 := Lib.hid (HB0.out.trans (hk4.mono HB0.out.size))
  clear hk1 hk2 hk3 hk4 hb1 hb2 hb3 hb4 hv1 hv2 hv3 hv4 mkS
  go_wp2_with fail
  refine (rchoose_c _ n k hk hn).mono ?_
  rintro e w5 ⟨v5, rfl, hv5, hb5⟩
  obtain ⟨p5, cp5, rfl, _, _⟩ := hv5.shape
  have HV5 := Lib.hid hv5
  have HB5 := Lib.hid hb5
  clear hv5 hb5
  have lp : Hid ((limbs (a ^ k * (b - a) ^ (n - k))).length ≤ 1000000) := Nat.le_trans (limbs_mul_len _ _) (by have := lak.out; have := lck.out; omega)
  have lh : Hid ((limbs (ch n k)).length ≤ 1000000) := Nat.le_trans (ch_limbs hn) (by omega)
  go_wp2_with fail
  refine (rproduct_n _ _ _ (a ^ k * (b - a) ^ (n - k)) (ch n k) (HV4.out.after HB5.out) HV5.out lp.out lh.out).mono ?_
  rintro e w6 ⟨v6, rfl, hv6, hb6⟩
  obtain ⟨p6, cp6, rfl, _, _⟩ := hv6.shape
  have HV6 := Lib.hid hv6
  have HB6 := Lib.hid ((HK4.out.trans (HB5.out.mono HK4.out.size)).trans (hb6.mono (by have := HK4.out.size; have := HB5.out.size; omega)))
  clear hv6 hb6
  go_wp2_with fail
  go_ret
  exact ⟨_, rfl, HV6.out, HB6.out⟩

theorem ex_limbs {a b n k : Nat} (hab : a ≤ b) (hb1 : b ≤ 1000) (hn : n ≤ 64) : (limbs (ex a (b - a) n k)).length ≤ 20 :=
  Nat.le_trans (limbs_len_mono (ex_all_le a (b - a) n k)) (pow_limbs (by omega) hn)
theorem tl_limbs {a b n k : Nat} (hab : a ≤ b) (hb1 : b ≤ 1000) (hn : n ≤ 64) : (limbs (tl a (b - a) n k)).length ≤ 20 :=
  Nat.le_trans (limbs_len_mono (tl_all_le a (b - a) n k)) (pow_limbs (by omega) hn)

set_option maxRecDepth 100000 in
set_option maxHeartbeats 2000000 in
theorem rtail_c (w : World) (v : Value) (n k a b : Nat) (h : IsF w v (fr false a b)) (hk : k ≤ n + 1) (hn : n ≤ 64) (hab : a ≤ b) (hb1 : b ≤ 1000) :
    Calls Try.prog 48 #[.int .i64 (n : Int), .int .i64 (k : Int), v] w (RetNat w (tl a (b - a) n k)) := by
  have HX := h
  obtain ⟨va, vb, rfl, h1, h2⟩ := h
  obtain ⟨p, cp, rfl, _, _⟩ := h1.shape
  obtain ⟨q, cq, rfl, _, _⟩ := h2.shape
  obtain ⟨W0, hW, bx, hsz, hb0⟩ := start1 w #[.bool (fr false a b).neg, .slice p (fr false a b).num.length cp, .slice q (fr false a b).den.length cq] 25
  have H1 := Lib.hid (HX.after hb0)
  have HB0 := Lib.hid hb0
  have BX := Lib.hid bx
  have lt_ : Hid (∀ i, (limbs (tl a (b - a) n i)).length ≤ 20) := fun i => tl_limbs hab hb1 hn
  have le_ : Hid (∀ i, (limbs (ex a (b - a) n i)).length ≤ 20) := fun i => ex_limbs hab hb1 hn
  clear HX bx hb0 h1 h2
  go_enter Try.func48, Try.ntmps48
  go_upto_region 1 with fail
  rw [← hW]
  clear hW
  go_wp2_with fail
  go_loopg [7, 8] (n + 1 - k) (fun g o t wx => ∃ (i s : Nat) (r : Option Addr) (cr : Nat), k ≤ i ∧ i ≤ n + 1 ∧ g = n + 1 - i ∧ t = .int .i64 (i : Int) ∧ o = .slice r (limbs s).length cr ∧ Hid (Sl wx (.slice r (limbs s).length cr) (limbs s)) ∧ Hid (s + tl a (b - a) n i = tl a (b - a) n k) ∧ Hid (Below w.heap.size w wx) ∧
    Hid (Box wx w.heap.size #[.bool (fr false a b).neg, .slice p (fr false a b).num.length cp, .slice q (fr false a b).den.length cq] 25) ∧ Hid (IsF wx (.agg #[.bool (fr false a b).neg, .slice p (fr false a b).num.length cp, .slice q (fr false a b).den.length cq]) (fr false a b)))
  case atStart =>
    refine ⟨k, 0, none, 0, Nat.le_refl _, hk, rfl, rfl, ?_, ?_, Nat.zero_add _, HB0.out, BX.out, H1.out⟩
    · rw [limbs_zero]; rfl
    · rw [limbs_zero]; exact Sl.nil _
  case round =>
    obtain ⟨i, s, r, cr, hki, hin, rfl, rfl, rfl, hs, hrel, hbl, hbx, hx⟩ := hrel
    by_cases hlt : i ≤ n
    · obtain ⟨x0, x1, x2⟩ := hbx.out.cells3
      have hrec : Hid (tl a (b - a) n i = ex a (b - a) n i + tl a (b - a) n (i + 1)) := tl_le hlt
      have ls : Hid ((limbs s).length ≤ 20) := by
        show _ ≤ _
        have h1 : s ≤ tl a (b - a) n k := by have := hrel.out; omega
        exact Nat.le_trans (limbs_len_mono h1) (lt_.out k)
      go_wp2_with fail
      refine (numerator_c _ _ n i a b hx.out hlt hn hab hb1).mono ?_
      rintro e w1 ⟨v1, rfl, hv1, hb1'⟩
      obtain ⟨p1, cp1, rfl, _, _⟩ := hv1.shape
      have HV := Lib.hid hv1
      have HB := Lib.hid hb1'
      clear hv1 hb1' x0 x1 x2
      go_wp2_with fail
      refine (rsum_n _ _ _ s (ex a (b - a) n i) (hs.out.after HB.out) HV.out (Nat.le_trans ls.out (by omega)) (Nat.le_trans (le_.out i) (by omega))).mono ?_
      rintro e w2 ⟨v2, rfl, hv2, hb2⟩
      obtain ⟨p2, cp2, rfl, _, _⟩ := hv2.shape
      have HV2 := Lib.hid hv2
      have HB2 := Lib.hid (HB.out.trans (hb2.mono HB.out.size))
      have HB3 := Lib.hid (hbl.out.trans (HB2.out.mono hbl.out.size))
      clear hv2 hb2
      go_wp2_with fail
      go_roundg (n + 1 - (i + 1))
      case measure => omega
      case rel => exact ⟨i + 1, s + ex a (b - a) n i, p2, cp2, by omega, by omega, rfl, by go_num, rfl, HV2.out, by show _ = _; have := hrec.out; have := hrel.out; omega, HB3.out, hbx.out.after HB2.out, hx.out.after HB2.out⟩
    · obtain rfl : i = n + 1 := by omega
      have hfin : Hid (s = tl a (b - a) n k) := by show _ = _; have := hrel.out; rw [tl_gt (by omega)] at this; omega
      clear hrel
      go_wp2_with fail
      go_ret
      rw [← hfin.out]
      exact ⟨_, rfl, hs.out, hbl.out⟩
end Go.Proofs.Ytppehiajocgiiaa
