/- Walks of package tails: powers.
   Memory words, more: variables that hold slices; stores into them leave fractions.
   Walks of the statements' own functions: of, one, is.
   Memory words, more: rows of numbers.
   Walks of the statements' own functions: one, rate, few, own.
   How a law's statement follows from its walk: the arguments read as they did where nothing below the heap's old size has turned.
   Fractions that come in as arguments: their rows may lie in memory of whatever type. What the statements' own() makes of them. -/
import Derived.Test.YtjjefdkadgkhfaaK10
import Derived.Deep.AppendLies
import Derived.Test.YtjjefdkadgkhfaaK07
import Derived.Test.YtjjefdkadgkhfaaK04
import Derived.Test.YtjjefdkadgkhfaaK01
import Derived.Test.YtjjefdkadgkhfaaRows
import Derived.ProofKit
import Derived.OpenShut
import Derived.WideKeyArgs
import Derived.Lib.SmallJoins
set_option linter.unusedVariables false
namespace Go.Proofs.Ytjjefdkadgkhfaa
open Go.RowKit

theorem infoF : (Try.prog.info? 30).map (fun i => (i.zero, i.size, i.bytes)) = some (some (.agg #[.bool false, .slice none 0 0, .slice none 0 0]), 3, 56) := by kernel_rfl
theorem own_shape {w : World} {base n size : Nat} {t : TypeId} {v : Value} {xs : List Value} (h : w.ownsRow base t size v (n + 1) xs) : ∃ g cap, v = .slice (some ⟨g, 0, none⟩) (n + 1) cap := by
  rcases h.2 with ⟨_, h0⟩ | ⟨g, cap, _, rfl, _⟩
  · omega
  · exact ⟨g, cap, rfl⟩
theorem SlF.has {w : World} {g n cap : Nat} {xs : List F} (h : SlF w (.slice (some ⟨g, 0, none⟩) n cap) xs) {i : Nat} {x : F} (hx : xs[i]? = some x) : HasF w g (i * 3) x := by
  obtain ⟨b, cap', e, _, _, h4⟩ := h
  obtain ⟨rfl, _, _⟩ : g = b ∧ n = xs.length ∧ cap = cap' := by simpa using e
  exact h4 i x hx
theorem Box.grown {w w' : World} {b : Nat} {cs : Array Value} {t : TypeId} {row : Option Nat} (h : Box w b cs t) (hg : w.grownBy w' row) (hr : some b ≠ row) : Box w' b cs t := (hg.block b h.lt hr).trans h
theorem IsF.grown {w w' : World} {v : Value} {x : F} {row : Option Nat} (h : IsF w v x) (hg : w.grownBy w' row) (hr : ∀ g, row = some g → ¬ Tag32 w g) : IsF w' v x := by
  obtain ⟨va, vb, rfl, h1, h2⟩ := h
  exact ⟨va, vb, rfl, h1.grown hg hr, h2.grown hg hr⟩
/-- The powers 0 to n of a number. -/
def pows (a n : Nat) : List F := (List.range (n + 1)).map fun i => Wh (a ^ i)
theorem pows_len (a n : Nat) : (pows a n).length = n + 1 := by unfold pows; simp
theorem pows_get {a n i : Nat} (h : i ≤ n) : (pows a n)[i]? = some (Wh (a ^ i)) := by
  unfold pows
  rw [List.getElem?_map, List.getElem?_range (by omega)]; rfl
theorem pows_succ (a n : Nat) : pows a (n + 1) = pows a n ++ [Wh (a ^ (n + 1))] := by
  unfold pows
  rw [List.range_succ (n := n + 1), List.map_append]; rfl

set_option maxRecDepth 100000 in
set_option maxHeartbeats 4000000 in
theorem powers_t (w : World) (v : Value) (a n : Nat) (h : IsF w v (Wh a)) (hn : n ≤ 64) (ha : (limbs a).length ≤ 32) (hp : ∀ i, i ≤ n → (limbs (a ^ i)).length ≤ 32) :
    Calls Try.prog 69 #[v, .int .i64 (n : Int)] w fun e w' => ∃ u, e = .returned u ∧ SlF w' u (pows a n) ∧ Below w.heap.size w w' := by
  have HX := h
  obtain ⟨va, vb, rfl, h1, h2⟩ := h
  obtain ⟨W0, hW, bx, hsz, hb0⟩ : ∃ W0, W0 = w.alloc (.cells #[.bool (Wh a).neg, va, vb] 30) ∧ Box W0 w.heap.size #[.bool (Wh a).neg, va, vb] 30 ∧ w.heap.size < W0.heap.size ∧ Below w.heap.size w W0 :=
    ⟨_, rfl, Box.new w _ _, by simp, (Below.refl _ w).alloc (Nat.le_refl _) _⟩
  obtain ⟨p, cp, rfl, _, _⟩ := h1.shape
  obtain ⟨q, cq, rfl, _, _⟩ := h2.shape
  obtain ⟨i0, hi, hz0, hz1, hz2⟩ := info_parts infoF
  have hlm : Hid (maxLen = 9223372036854775807) := rfl
  have H1 := Lib.hid (HX.after hb0)
  have HB0 := Lib.hid hb0
  have BX := Lib.hid bx
  have HP := Lib.hid hp
  clear HX bx hb0 h1 h2 hp
  go_enter Try.func69, Try.ntmps69
  go_upto_region 1 with fail
  rw [← hW]
  clear hW
  go_wp2_with fail
  refine (whole_c _ 1 (by omega)).mono ?_
  rintro e w1 ⟨v1, rfl, hv1, hb1⟩
  obtain ⟨vc, vd, rfl, h3, h4⟩ := hv1
  obtain ⟨pc, cc, rfl, _, _⟩ := h3.shape
  obtain ⟨pd, cd, rfl, _, _⟩ := h4.shape
  have HB1 := Lib.hid (HB0.out.trans (hb1.mono HB0.out.size))
  have BX1 := Lib.hid (BX.out.after hb1)
  have H1' := Lib.hid (H1.out.after hb1)
  have hb3 := (Below.refl w1.heap.size w1).alloc (Nat.le_refl _) (.cells #[.bool (Wh 1).neg, .slice pc (Wh 1).num.length cc, .slice pd (Wh 1).den.length cd] 30)
  have hE : Hid (Ents (w1.alloc (.cells #[.bool (Wh 1).neg, .slice pc (Wh 1).num.length cc, .slice pd (Wh 1).den.length cd] 30)) [((Wh 1).neg, .slice pc (Wh 1).num.length cc, .slice pd (Wh 1).den.length cd)] (pows a 0)) := by
    have := Ents.snoc (x := Wh 1) (es := []) (xs := []) (w := w1) ⟨rfl, fun i x h => by simp at h⟩ h3 h4
    exact this.after hb3
  have hO := Lib.hid (ownsRow_one w1 (base := w.heap.size + 1) 30 (by have := HB1.out.size; have := hb1.size; omega) (.bool (Wh 1).neg) (.slice pc (Wh 1).num.length cc) (.slice pd (Wh 1).den.length cd))
  have hW1 : Below w.heap.size w (w1.alloc (.cells #[.bool (Wh 1).neg, .slice pc (Wh 1).num.length cc, .slice pd (Wh 1).den.length cd] 30)) := HB1.out.trans (hb3.mono HB1.out.size)
  have HW1 := Lib.hid hW1
  have hszw : w.heap.size + 1 ≤ w1.heap.size := by have := hb1.size; omega
  have BX2 := Lib.hid (BX1.out.alloc (.cells #[.bool (Wh 1).neg, .slice pc (Wh 1).num.length cc, .slice pd (Wh 1).den.length cd] 30))
  have H2' := Lib.hid (H1'.out.alloc (.cells #[.bool (Wh 1).neg, .slice pc (Wh 1).num.length cc, .slice pd (Wh 1).den.length cd] 30))
  clear HB1 BX1 H1' hb1 h3 h4 hb3 H1 HB0 BX hW1
  go_wp2_with fail
  go_loopg [5, 9] n (fun g o t wx => ∃ (i : Nat) (es : List (Bool × Value × Value)), i ≤ n ∧ g = n - i ∧ t = .int .i64 (i : Int) ∧ wx.ownsRow (w.heap.size + 1) 30 3 o (i + 1) (cellsF es) ∧ Hid (Ents wx es (pows a i)) ∧
    Hid (Box wx w.heap.size #[.bool (Wh a).neg, .slice p (Wh a).num.length cp, .slice q (Wh a).den.length cq] 30) ∧ Hid (IsF wx (.agg #[.bool (Wh a).neg, .slice p (Wh a).num.length cp, .slice q (Wh a).den.length cq]) (Wh a)) ∧ Hid (Below w.heap.size w wx) ∧ w.heap.size + 1 ≤ wx.heap.size)
  case atStart => exact ⟨0, [((Wh 1).neg, .slice pc (Wh 1).num.length cc, .slice pd (Wh 1).den.length cd)], Nat.zero_le _, rfl, rfl, hO.out, hE.out, BX2.out, H2'.out, HW1.out, by simp; omega⟩
  case round =>
    obtain ⟨i, es, hile, rfl, rfl, hown, hE', hbx, hx, hbl, hsz2⟩ := hrel
    obtain ⟨g, cap, rfl⟩ := own_shape hown
    clear hE hO HW1 BX2 H2'
    by_cases hlt : i < n
    · obtain ⟨vg, vh, g0, g1, g2, hs1, hs2⟩ := (SlF.of_own hown hE'.out (by rw [pows_len]; omega)).has (pows_get (Nat.le_refl i))
      obtain ⟨pg, cg, rfl, _, _⟩ := hs1.shape
      obtain ⟨ph, ch', rfl, _, _⟩ := hs2.shape
      obtain ⟨x0, x1, x2⟩ := hbx.out.cells3
      have hgl := hown.lt g rfl
      have hsum : IntKind.i64.wrap (((i : Int) + 1) - 1) = (i : Int) := by rw [wrap_in (by omega) (by omega)]; omega
      have hsum0 : IntKind.i64.wrap (i : Int) = (i : Int) := wrap_in (by omega) (by omega)
      have hi0' : (0 : Int) ≤ (i : Int) := Int.natCast_nonneg _
      have hi1' : (i : Int) < (i : Int) + 1 := by omega
      have HO := Lib.hid hown
      have hl1 : Hid ((limbs (a ^ i)).length ≤ 32) := HP.out i hile
      have hl2 : Hid ((limbs (a ^ i * a)).length ≤ 32) := by show _ ≤ _; rw [← Nat.pow_succ]; exact HP.out (i + 1) hlt
      have hS1 := Lib.hid hs1
      have hS2 := Lib.hid hs2
      clear hown hs1 hs2
      go_upto_region 2 with fail

      go_region_law
        (first
         | (refine step_append_lies _ (by rfl) _ _ _ (by rfl) (w.heap.size + 1) 30 i0 _ 3 56 Try.underlying114 hi hz0 hz1 hz2 rfl (by omega) (.slice (some ⟨g, 0, none⟩) (i + 1) cap) (i + 1) (cellsF es) (by rfl) (ownsRow_after HO.out hbB) ⟨w3.heap.size, 0, none⟩ 1 1 [.bool (Wh (a ^ i * a)).neg, .slice pe (Wh (a ^ i * a)).num.length ce, .slice pf (Wh (a ^ i * a)).den.length cf] (by rfl) (by rfl) (World.news_of_block (cs := #[.bool (Wh (a ^ i * a)).neg, .slice pe (Wh (a ^ i * a)).num.length ce, .slice pf (Wh (a ^ i * a)).den.length cf]) (t := 30) (fr := (0, 0)) (heap_alloc_new w3 _)) (by simp [Value.oneCell']) (by omega) (by rw [hlm.out]; omega) (by omega) (by have := hbA.size; simp; omega) (w3.heap.size + 1) (by simp) ?_; intro gg cap2 w5 hown5 hgrow hat hlt5; have hne : some w.heap.size ≠ (Value.slice (some ⟨g, 0, none⟩) (i + 1) cap).ownBlock := fun e => by have := congrArg (Option.getD · 0) e; simp [Value.ownBlock] at this; omega)
         | (go_simp; go_at_call 71; refine (times2_t _ _ (a ^ i) a ?_ hl1.out ha hl2.out).mono ?_; exact SlF.two wr (x := Wh (a ^ i)) (y := Wh a) ⟨_, _, rfl, hS1.out, hS2.out⟩ hx.out rfl _; rintro e w3 ⟨v3, rfl, hv3, hb3⟩; obtain ⟨ve, vf, rfl, h5, h6⟩ := hv3; obtain ⟨pe, ce, rfl, _, _⟩ := h5.shape; obtain ⟨pf, cf, rfl, _, _⟩ := h6.shape; have hbA := ((Below.refl wr.heap.size wr).alloc (Nat.le_refl _) _).trans ((below_of_drew hb3).mono (by simp)); have hbB := hbA.alloc hbA.size (.cells #[.bool (Wh (a ^ i * a)).neg, .slice pe (Wh (a ^ i * a)).num.length ce, .slice pf (Wh (a ^ i * a)).den.length cf] 30)))
      all_goals
        (have htag := ownsRow_tag (ownsRow_after HO.out hbB) (show 30 ≠ 104 by decide)
         have hE5 := Lib.hid (((hE'.out.after hbB).grown hgrow htag).snoc (x := Wh (a ^ i * a)) ((h5.alloc _).grown hgrow htag) ((h6.alloc _).grown hgrow htag))
         have hB5 := Lib.hid ((hbx.out.after hbB).grown hgrow hne)
         have hI5 := Lib.hid ((hx.out.after hbB).grown hgrow htag)
         have hW5 : Hid (Below w.heap.size w w5) := (hbl.out.trans (hbB.mono hbl.out.size)).grown hgrow (by have := hbl.out.size; have := hbB.size; omega) (fun k hk => by have := (HO.out.lt k hk).1; omega)
         have hO5 : Hid (w5.ownsRow (w.heap.size + 1) 30 3 (.slice (some ⟨gg, 0, none⟩) (i + 1 + 1) cap2) (i + 1 + 1) (cellsF (es ++ [((Wh (a ^ i * a)).neg, .slice pe (Wh (a ^ i * a)).num.length ce, .slice pf (Wh (a ^ i * a)).den.length cf)]))) := by
           show w5.ownsRow _ _ _ _ _ _
           rw [cellsF_snoc]
           exact hown5
         have hsz5 : w.heap.size + 1 ≤ w5.heap.size := by have := hbB.size; have := hgrow.size; omega
         have hpe : Hid (pows a i ++ [Wh (a ^ i * a)] = pows a (i + 1)) := by show _ = _; rw [pows_succ, Nat.pow_succ]
         clear hown5 hgrow hat hbA hbB hb3 h5 h6 htag g0 g1 g2 x0 x1 x2 hne
         go_wp2_with fail
         go_roundg (n - (i + 1))
         case measure => omega
         case rel => exact ⟨i + 1, _, hlt, rfl, by go_num, hO5.out, hpe.out ▸ hE5.out, hB5.out, hI5.out, hW5.out, hsz5⟩)
    · obtain rfl : i = n := by omega
      have hfin := Lib.hid (SlF.of_own hown hE'.out (by rw [pows_len]; omega))
      have hbl' := Lib.hid hbl.out
      clear hown hE'
      go_wp2_with fail
      go_ret
      exact ⟨_, rfl, hfin.out, hbl'.out⟩
end Go.Proofs.Ytjjefdkadgkhfaa

namespace Go.Proofs.Ytjjefdkadgkhfaa
open Go.RowKit

theorem below_dr {B : Nat} {w w' : World} (h : Below B w w') : Below B w w'.drew := ⟨h.os, h.tape, h.output, h.size, h.block⟩
theorem Sl.drew {w : World} {v : Value} {l : List Nat} (h : Sl w v l) : Sl w.drew v l := h.after (below_dr (Below.refl _ w))
theorem SlF.drew {w : World} {v : Value} {xs : List F} (h : SlF w v xs) : SlF w.drew v xs := h.after (below_dr (Below.refl _ w))
theorem held_alloc {W w : World} {o : Obj} (h : Below W.heap.size W w) : Below W.heap.size W (w.alloc o) := h.alloc h.size o
theorem held_set {W w : World} {p : Addr} {v : Value} (h : Below W.heap.size W w) (hp : W.heap.size ≤ p.block) : Below W.heap.size W (w.setCell p v) := h.setCell hp v
theorem Tag32.set {w : World} {b : Nat} (h : Tag32 w b) (g i : Nat) (v : Value) : Tag32 (w.setCell ⟨g, i, none⟩ v) b := by
  obtain ⟨cs, fz, h⟩ := h
  by_cases hb : b = g
  · subst hb
    exact ⟨cs.setIfInBounds i v, fz, by simp [World.setCell, Array.getElem?_modify, h]⟩
  · exact ⟨cs, fz, (Below.heap_setCell w ⟨g, i, none⟩ v b hb).trans h⟩
/-- A store into a cell that holds no limb leaves what a slice of limbs reads. -/
theorem Sl.setN {w : World} {v : Value} {l : List Nat} {b i : Nat} {u0 : Value} (h : Sl w v l) (hc : w.cell? ⟨b, i, none⟩ = some u0) (hn : ∀ x, u0 ≠ .int .u32 x) (u : Value) : Sl (w.setCell ⟨b, i, none⟩ u) v l := by
  obtain ⟨h0, a, cap, h1, h2, h3, h5, h6⟩ := h
  refine ⟨h0, a, cap, h1, h2, h3, ⟨h5.1, fun hl b' off ha => (h5.2 hl b' off ha).set _ _ _⟩, fun hl => ?_⟩
  obtain ⟨b', off, ha, hlt, hcs⟩ := h6 hl
  refine ⟨b', off, ha, by simpa [World.setCell] using hlt, fun j hj => ?_⟩
  rw [← hcs j hj]
  refine World.cell?_setCell_other w ⟨b, i, none⟩ ⟨b', off + j, none⟩ u (fun e => ?_)
  have e1 := hcs j hj
  rw [← e, hc] at e1
  injection e1 with e1
  exact hn _ e1
theorem IsF.setN {w : World} {v : Value} {x : F} {b i : Nat} {u0 : Value} (h : IsF w v x) (hc : w.cell? ⟨b, i, none⟩ = some u0) (hn : ∀ x, u0 ≠ .int .u32 x) (u : Value) : IsF (w.setCell ⟨b, i, none⟩ u) v x := by
  obtain ⟨va, vb, e, h1, h2⟩ := h
  exact ⟨va, vb, e, h1.setN hc hn u, h2.setN hc hn u⟩
/-- A store into a variable of slices leaves a row of fractions. -/
theorem SlF.setS {w : World} {v : Value} {xs : List F} {b : Nat} {p : Option Addr} {n c : Nat} (h : SlF w v xs) (hc : w.cell? ⟨b, 0, none⟩ = some (.slice p n c)) (u : Value) : SlF (w.setCell ⟨b, 0, none⟩ u) v xs := by
  obtain ⟨g, cap, h1, h2, h3, h4⟩ := h
  refine ⟨g, cap, h1, h2, h3, fun i x hx => ?_⟩
  have hne : g ≠ b := by
    rintro rfl
    have hl : 0 < xs.length := by
      rcases Nat.lt_or_ge i xs.length with hi | hi
      · omega
      · rw [List.getElem?_eq_none hi] at hx; cases hx
    obtain ⟨va, vb, e0, _⟩ := h4 0 xs[0] (List.getElem?_eq_getElem hl)
    rw [Nat.zero_mul, hc] at e0
    injection e0 with e0
    cases e0
  obtain ⟨va, vb, e0, e1, e2, e3, e4⟩ := h4 i x hx
  have k : ∀ j, (w.setCell ⟨b, 0, none⟩ u).cell? ⟨g, j, none⟩ = w.cell? ⟨g, j, none⟩ := fun j => World.cell?_setCell_other w ⟨b, 0, none⟩ ⟨g, j, none⟩ u (fun e => hne (by injection e with e1; exact e1.symm))
  exact ⟨va, vb, (k _).trans e0, (k _).trans e1, (k _).trans e2, e3.setN hc (fun _ h => by cases h) u, e4.setN hc (fun _ h => by cases h) u⟩
theorem SlF.alloc {w : World} {v : Value} {xs : List F} (h : SlF w v xs) (o : Obj) : SlF (w.alloc o) v xs := h.after ((Below.refl _ w).alloc (Nat.le_refl _) o)
theorem powers_h (w W2 : World) (v : Value) (a n : Nat) (hS : Below W2.heap.size W2 w) (h : IsF W2 v (Wh a)) (hn : n ≤ 64) (ha : (limbs a).length ≤ 32) (hp : ∀ i, i ≤ n → (limbs (a ^ i)).length ≤ 32) :
    Calls Try.prog 69 #[v, .int .i64 (n : Int)] w fun e w' => ∃ u, e = .returned u ∧ SlF w' u (pows a n) ∧ Below W2.heap.size W2 w' ∧ Below w.heap.size w w' := by
  refine (powers_t w v a n (h.after hS) hn ha hp).mono ?_
  rintro e w' ⟨u, rfl, h1, h2⟩
  exact ⟨u, rfl, h1, hS.trans (h2.mono hS.size), h2⟩

/-- A variable that holds a fraction. -/
def VarF (w : World) (b : Nat) (x : F) : Prop := ∃ va vb, Box w b #[.bool x.neg, va, vb] 30 ∧ Sl w va x.num ∧ Sl w vb x.den
theorem VarF.after {w w' : World} {b : Nat} {x : F} (h : VarF w b x) (hb : Below w.heap.size w w') : VarF w' b x := by
  obtain ⟨va, vb, h1, h2, h3⟩ := h
  exact ⟨va, vb, h1.after hb, h2.after hb, h3.after hb⟩
theorem VarF.lt {w : World} {b : Nat} {x : F} (h : VarF w b x) : b < w.heap.size := by obtain ⟨_, _, h1, _⟩ := h; exact h1.lt
theorem VarF.drew {w : World} {b : Nat} {x : F} (h : VarF w b x) : VarF w.drew b x := h.after (below_dr (Below.refl _ w))
/-- A variable whose denominator is a literal 1. -/
theorem VarF.lit {w : World} {N s : Nat} {a : Nat} {va : Value} {r : Bool} (hA : Sl w va (limbs a)) (hr : r = false) (hb : w.heap[N]? = some (.cells #[.bool r, va, .slice (some ⟨s, 0, none⟩) 1 1] 30 (0, 0))) (hs : w.heap[s]? = some (.cells #[.int .u32 1] 104 (0, 0))) : VarF w N (Wh a) := by
  subst hr
  refine ⟨va, _, hb, hA, ?_⟩
  show Sl _ _ (limbs 1)
  rw [limbs_one]
  exact Sl.of_row (l := [1]) hs (Lb.cons (by omega) Lb.nil) (by simp) (by omega)
end Go.Proofs.Ytjjefdkadgkhfaa

namespace Go.Proofs.Ytjjefdkadgkhfaa
open Go.RowKit

end Go.Proofs.Ytjjefdkadgkhfaa

namespace Go.Proofs.Ytjjefdkadgkhfaa
open Go.RowKit

theorem infoN : (Try.prog.info? 28).map (fun i => (i.zero, i.size, i.bytes)) = some (some (.slice none 0 0), 1, 24) := by kernel_rfl
/-- A cell holds the number n. -/
def HasN (w : World) (b off n : Nat) : Prop := ∃ v, w.cell? ⟨b, off, none⟩ = some v ∧ Sl w v (limbs n)
theorem HasN.after {w w' : World} {b off n : Nat} (h : HasN w b off n) (hb : Below w.heap.size w w') : HasN w' b off n := by
  obtain ⟨v, h1, h2⟩ := h
  exact ⟨v, keep_cell hb h1, h2.after hb⟩
/-- The cells of block b from 0 on hold the numbers xs. -/
def RowN (w : World) (b : Nat) (xs : List Nat) : Prop := ∀ (i x : Nat), xs[i]? = some x → HasN w b i x
theorem RowN.after {w w' : World} {b : Nat} {xs : List Nat} (h : RowN w b xs) (hb : Below w.heap.size w w') : RowN w' b xs := fun i x hx => (h i x hx).after hb
theorem RowN.grown {w w' : World} {b : Nat} {xs : List Nat} {row : Option Nat} (h : RowN w b xs) (hg : w.grownBy w' row) (hne : some b ≠ row) (hr : ∀ g, row = some g → ¬ Tag32 w g) : RowN w' b xs := by
  intro i x hx
  obtain ⟨v, h1, h2⟩ := h i x hx
  exact ⟨v, hg.cell h1 hne, h2.grown hg hr⟩
/-- What the entries es of a row stand for. -/
def EntsN (w : World) (es : List Value) (xs : List Nat) : Prop := es.length = xs.length ∧ ∀ (i x : Nat), xs[i]? = some x → ∃ v, es[i]? = some v ∧ Sl w v (limbs x)
theorem EntsN.after {w w' : World} {es : List Value} {xs : List Nat} (h : EntsN w es xs) (hb : Below w.heap.size w w') : EntsN w' es xs :=
  ⟨h.1, fun i x hx => by obtain ⟨v, h1, h2⟩ := h.2 i x hx; exact ⟨v, h1, h2.after hb⟩⟩
theorem EntsN.grown {w w' : World} {es : List Value} {xs : List Nat} {row : Option Nat} (h : EntsN w es xs) (hg : w.grownBy w' row) (hr : ∀ g, row = some g → ¬ Tag32 w g) : EntsN w' es xs :=
  ⟨h.1, fun i x hx => by obtain ⟨v, h1, h2⟩ := h.2 i x hx; exact ⟨v, h1, h2.grown hg hr⟩⟩
theorem EntsN.nil (w : World) : EntsN w [] [] := ⟨rfl, fun i x h => by simp at h⟩
theorem EntsN.snoc {w : World} {es : List Value} {xs : List Nat} {x : Nat} {v : Value} (h : EntsN w es xs) (h1 : Sl w v (limbs x)) : EntsN w (es ++ [v]) (xs ++ [x]) := by
  refine ⟨by simp [h.1], fun i y hy => ?_⟩
  rcases Nat.lt_or_ge i xs.length with hi | hi
  · rw [List.getElem?_append_left hi] at hy
    obtain ⟨a, e1, e2⟩ := h.2 i y hy
    exact ⟨a, by rw [List.getElem?_append_left (by rw [h.1]; exact hi)]; exact e1, e2⟩
  · rw [List.getElem?_append_right hi] at hy
    have hi0 : i - xs.length = 0 := by
      rcases Nat.eq_zero_or_pos (i - xs.length) with h0 | h0
      · exact h0
      · rw [List.getElem?_eq_none (by simp; omega)] at hy; cases hy
    rw [hi0] at hy
    obtain rfl : x = y := by simpa using hy
    exact ⟨v, by rw [List.getElem?_append_right (by rw [h.1]; exact hi), h.1, hi0]; rfl, h1⟩
theorem ownsRow_one1 (w : World) {base : Nat} (t : TypeId) (hb : base ≤ w.heap.size) (x : Value) : (w.alloc (.cells #[x] t)).ownsRow base t 1 (.slice (some ⟨w.heap.size, 0, none⟩) 1 1) 1 [x] :=
  ⟨rfl, .inr ⟨w.heap.size, 1, #[x], rfl, hb, heap_alloc_new w _, Nat.le_refl _, by simp [maxLen], rfl, rfl⟩⟩
/-- An owned row of numbers reads as numbers. -/
theorem RowN.of_own {w : World} {base n m g cap : Nat} {t : TypeId} {es : List Value} {xs : List Nat} (h : w.ownsRow base t 1 (.slice (some ⟨g, 0, none⟩) m cap) n es) (he : EntsN w es xs) : RowN w g xs := by
  intro i x hx
  obtain ⟨v, e1, e2⟩ := he.2 i x hx
  have hc := h.cells (g := g) rfl
  have hadd : ∀ j, (⟨g, 0, none⟩ : Addr).add j = ⟨g, j, none⟩ := fun j => by unfold Addr.add; split <;> simp_all
  have c0 := hc _ _ e1
  rw [hadd] at c0
  exact ⟨v, c0, e2⟩
/-- Row i of Pascal's triangle up to place j. -/
def pasc (i j : Nat) : List Nat := (List.range j).map (ch i)
theorem pasc_len (i j : Nat) : (pasc i j).length = j := by unfold pasc; simp
theorem pasc_get {i j k : Nat} (h : k < j) : (pasc i j)[k]? = some (ch i k) := by
  unfold pasc; rw [List.getElem?_map, List.getElem?_range h]; rfl
theorem pasc_succ (i j : Nat) : pasc i j ++ [ch i j] = pasc i (j + 1) := by
  unfold pasc; rw [List.range_succ, List.map_append]; rfl
theorem pasc_one (i : Nat) : pasc i 1 = [1] := by
  show [ch i 0] = [1]
  rw [ch_zero]
theorem keep3z {W : World} {R X : Nat} {u0 u1 u2 a b c : Value} (h : R ≠ X) (hs : W.cell? ⟨X, 0, none⟩ = some a ∧ W.cell? ⟨X, 1, none⟩ = some b ∧ W.cell? ⟨X, 2, none⟩ = some c) :
    (((W.setCell ⟨R, 0, none⟩ u0).setCell ⟨R, 1, none⟩ u1).setCell ⟨R, 2, none⟩ u2).cell? ⟨X, 0, none⟩ = some a ∧ (((W.setCell ⟨R, 0, none⟩ u0).setCell ⟨R, 1, none⟩ u1).setCell ⟨R, 2, none⟩ u2).cell? ⟨X, 1, none⟩ = some b ∧
    (((W.setCell ⟨R, 0, none⟩ u0).setCell ⟨R, 1, none⟩ u1).setCell ⟨R, 2, none⟩ u2).cell? ⟨X, 2, none⟩ = some c := by
  have k : ∀ j, (((W.setCell ⟨R, 0, none⟩ u0).setCell ⟨R, 1, none⟩ u1).setCell ⟨R, 2, none⟩ u2).cell? ⟨X, j, none⟩ = W.cell? ⟨X, j, none⟩ := fun j => by
    rw [World.cell?_setCell_other _ _ _ _ (fun e => h (by injection e)), World.cell?_setCell_other _ _ _ _ (fun e => h (by injection e)), World.cell?_setCell_other _ _ _ _ (fun e => h (by injection e))]
  exact ⟨(k 0).trans hs.1, (k 1).trans hs.2.1, (k 2).trans hs.2.2⟩
end Go.Proofs.Ytjjefdkadgkhfaa

namespace Go.Proofs.Ytjjefdkadgkhfaa
open Go.RowKit

/-- A row cut to 34 limbs. -/
def cut34 (x : F) : F := ⟨x.neg, x.num.take 34, x.den.take 34⟩
/-- Fewer trials. -/
def fewN (n : Int) : Int := if 20 < n ∧ n < 64 then 20 else n

theorem Sl.cut {w : World} {p : Option Addr} {c : Nat} {l : List Nat} (h : Sl w (.slice p l.length c) l) : Sl w (.slice p (min (l.length : Int) 34).toNat c) (l.take 34) := by
  have := h.front (min l.length 34) (by omega)
  have e1 : (min (l.length : Int) 34).toNat = min l.length 34 := by omega
  have e2 : l.take (min l.length 34) = l.take 34 := by
    rcases Nat.le_total l.length 34 with h1 | h1
    · rw [Nat.min_eq_left h1, List.take_of_length_le h1, List.take_of_length_le (Nat.le_refl _)]
    · rw [Nat.min_eq_right h1]
  rw [e1, ← e2]; exact this

end Go.Proofs.Ytjjefdkadgkhfaa

namespace Go.Proofs.Ytjjefdkadgkhfaa
open Go.ChangeShapes Go.WideShapes Go.ChangeAt Go.RowKit

theorem law_own : ownKnob Try.prog.godebug = none := by kernel_rfl
theorem law_laid : laidOutB Try.prog = true := by kernel_rfl

theorem trodAll_stays {H : Type} {enc : TypeId × Value → H} {P : Program} (hl : laidOutB P = true) {W W' : World} {sp' : Nat → Bool} : ∀ {ts : List TypeId} {vs : List Value} {ds : List (DataW H)} {ps : List MemPlace},
    (∀ t ∈ ts, P.readableRec t = true ∧ t < P.types.size) → DataW.TrodAll enc P W 0 (fun _ => true) true ts vs ds ps → (∀ p ∈ ps, W.sameAt W' p) → (∀ p ∈ ps, sp' p.block = true) → DataW.TrodAll enc P W' 0 sp' true ts vs ds ps
  | [], vs, ds, ps, _, h, _, _ => by
    obtain ⟨rfl, rfl, rfl⟩ := trodAll_nil h
    exact trodAll_mk0
  | t :: ts, vs, ds, ps, hr, h, h1, h2 => by
    obtain ⟨v, vs', d, ds', p, q, rfl, rfl, rfl, hv, hrest⟩ := trodAll_cons h
    obtain ⟨r1, r2⟩ := hr t (List.mem_cons.2 (.inl rfl))
    exact trodAll_cons_mk (WideElems.Trod_stays hl r1 r2 hv (fun x hx => h1 x (List.mem_append_left _ hx)) (fun x hx => h2 x (List.mem_append_left _ hx)))
      (trodAll_stays hl (fun t ht => hr t (List.mem_cons.2 (.inr ht))) hrest (fun x hx => h1 x (List.mem_append_right _ hx)) (fun x hx => h2 x (List.mem_append_right _ hx)))

theorem law_types {P : Program} {ts : List TypeId} (h : (ts.all fun t => P.readableRec t && decide (t < P.types.size)) = true) : ∀ t ∈ ts, P.readableRec t = true ∧ t < P.types.size := by
  intro t ht
  have := List.all_eq_true.1 h t ht
  simpa using this

/-- The end of a law's proof. -/
theorem law_post {H : Type} {enc : TypeId × Value → H} {P : Program} {f : Func} {s : ChangeSpec} {W W' : World} {args : Array Value} {ds gs : List (DataW H)} {before : List MemPlace} {tb : TypeId}
    (hl : laidOutB P = true) (hts : ∀ t ∈ f.params.toList, P.readableRec t = true ∧ t < P.types.size) (hvars : s.vars = []) (hres : f.resultTypes = #[tb]) (htb : P.underlying tb = some .bool)
    (hspec : s.fn H ds = { results := [.lit (.bool true)], args := ds, vars := [] }) (hW : DataW.Whole enc P f.params.toList s.vars false W args.toList ds gs before) (hb : Below W.heap.size W W') :
    s.post enc P f false true false false W args (.bool true) W' := by
  have hW' := hW
  have hlt : ∀ p ∈ before, p.block < W.heap.size := fun p hp => hW.lt p hp
  obtain ⟨p, q, hA, hV, rfl, _, _⟩ := hW
  rw [hvars] at hV
  obtain ⟨rfl, rfl⟩ := trodVars_none hV
  have hsp : s.fn H (ds ++ []) = { results := [.lit (.bool true)], args := ds, vars := [] } := by rw [List.append_nil]; exact hspec
  refine ⟨ds, [], p ++ [], [], p, [], hW', ?_, ?_, ?_, hb.frame _, fun h => by cases h⟩
  · rw [hsp, hres]
    exact trodAll_cons_mk (shut_bool htb true) trodAll_mk0
  · rw [hsp]
    exact trodAll_stays hl hts hA (fun x hx => hb.same (hlt x (by simpa using hx))) (fun x hx => by simpa using hlt x (by simpa using hx))
  · rw [hsp, hvars]; rfl
end Go.Proofs.Ytjjefdkadgkhfaa

namespace Go.Proofs.Ytjjefdkadgkhfaa
open Go.RowKit

/-- As Sl, of an argument: nothing is asked of the type of the memory that it lies in. -/
def SlA (w : World) (v : Value) (l : List Nat) : Prop :=
  Lb l ∧ ∃ (a : Option Addr) (cap : Nat), v = .slice a l.length cap ∧ l.length ≤ cap ∧ cap ≤ 9223372036854775807 ∧ (a = none → cap = 0) ∧
    (0 < l.length → ∃ b off, a = some ⟨b, off, none⟩ ∧ b < w.heap.size ∧ ∀ i, i < l.length → w.cell? ⟨b, off + i, none⟩ = some (.int .u32 ((lim l i : Nat) : Int)))
theorem SlA.after {w w' : World} {v : Value} {l : List Nat} (h : SlA w v l) (hb : Below w.heap.size w w') : SlA w' v l := by
  obtain ⟨h0, a, cap, h1, h2, h3, h5, h6⟩ := h
  refine ⟨h0, a, cap, h1, h2, h3, h5, fun hl => ?_⟩
  obtain ⟨b, off, ha, hlt, hc⟩ := h6 hl
  exact ⟨b, off, ha, Nat.lt_of_lt_of_le hlt hb.size, fun i hi => keep_cell hb (hc i hi)⟩
theorem SlA.alloc {w : World} {v : Value} {l : List Nat} (h : SlA w v l) (o : Obj) : SlA (w.alloc o) v l := h.after ((Below.refl _ w).alloc (Nat.le_refl _) o)
theorem SlA.shape {w : World} {v : Value} {l : List Nat} (h : SlA w v l) : ∃ a cap, v = .slice a l.length cap ∧ l.length ≤ cap ∧ cap ≤ 9223372036854775807 := by
  obtain ⟨_, a, cap, h1, h2, h3, _, _⟩ := h
  exact ⟨a, cap, h1, h2, h3⟩
theorem SlA.cut {w : World} {p : Option Addr} {c : Nat} {l : List Nat} (h : SlA w (.slice p l.length c) l) : SlA w (.slice p (min (l.length : Int) 34).toNat c) (l.take 34) := by
  obtain ⟨h0, a, cap, h1, h2, h3, h5, h6⟩ := h
  obtain ⟨rfl, rfl⟩ : p = a ∧ c = cap := by injection h1 with e1 _ e3; exact ⟨e1, e3⟩
  have hn : (min (l.length : Int) 34).toNat = (l.take 34).length := by rw [List.length_take]; omega
  refine ⟨h0.take 34, p, c, by rw [hn], by rw [List.length_take]; omega, h3, h5, fun hl => ?_⟩
  rw [List.length_take] at hl
  obtain ⟨b, off, ha, hlt, hc⟩ := h6 (by omega)
  refine ⟨b, off, ha, hlt, fun i hi => ?_⟩
  rw [List.length_take] at hi
  rw [lim_take (by omega)]
  exact hc i (by omega)
theorem SlA.news {w : World} {ad : Addr} {n cap : Nat} {l : List Nat} (h : SlA w (.slice (some ad) n cap) l) : ∀ j u, (l.map u32)[j]? = some u → w.cell? (ad.add j) = some u := by
  obtain ⟨_, a, c, h1, _, _, _, h6⟩ := h
  obtain rfl : some ad = a := by injection h1
  intro j u hj
  have hl : j < l.length := by
    rcases Nat.lt_or_ge j l.length with h | h
    · exact h
    · rw [List.getElem?_eq_none (by simpa using h)] at hj; cases hj
  obtain ⟨b, off, ha, _, hc⟩ := h6 (by omega)
  obtain rfl : ad = ⟨b, off, none⟩ := by injection ha
  have hadd : (⟨b, off, none⟩ : Addr).add j = ⟨b, off + j, none⟩ := by unfold Addr.add; split <;> simp_all
  rw [hadd, hc j hl]
  rw [List.getElem?_map, List.getElem?_eq_getElem hl] at hj
  rw [lim_get hl]
  exact hj
/-- As IsF, of an argument. -/
def IsFA (w : World) (v : Value) (x : F) : Prop := ∃ va vb, v = .agg #[.bool x.neg, va, vb] ∧ SlA w va x.num ∧ SlA w vb x.den
theorem IsFA.after {w w' : World} {v : Value} {x : F} (h : IsFA w v x) (hb : Below w.heap.size w w') : IsFA w' v x := by
  obtain ⟨va, vb, e, h1, h2⟩ := h
  exact ⟨va, vb, e, h1.after hb, h2.after hb⟩

set_option maxHeartbeats 1000000 in
theorem clone_a (w : World) (va : Value) (a : List Nat) (h : SlA w va a) (ha : a.length ≤ 1000000) :
    Calls Try.prog 76 #[va] w fun e w' => ∃ v, e = .returned v ∧ Sl w' v a ∧ Below w.heap.size w w' := by
  have hs := h
  obtain ⟨h0, p, cap, rfl, h2, h3, h5, h6⟩ := h
  rcases p with _ | ad
  · have hz := h5 rfl
    have hl : a = [] := List.length_eq_zero_iff.1 (by omega)
    subst hl; subst hz
    have hnil := fun W : World => Lib.run_eql_slice_nil (P := Try.prog) W 28 104 none 0 0 0 0 Try.underlying28
    clear hs h6 h5
    go_enter Try.func76, Try.ntmps76
    go_wp2
    go_ret
    exact ⟨_, rfl, Sl.nil w, Below.refl _ w⟩
  · have hnil := fun W : World => Lib.run_eql_slice_nil (P := Try.prog) W 28 104 (some ad) a.length cap 0 0 Try.underlying28
    have hown := World.ownsRow_made (e := 104) (size := 1) (base := w.heap.size) w #[] 0 (Nat.le_refl _) (by simp) (by simp)
    have hnews := (hs.alloc (.cells #[] 104)).news
    obtain ⟨i0, hi, hz0, hz1, hz2⟩ := info_parts info32
    have HOWN := Lib.hid hown
    have HNEWS := Lib.hid hnews
    have hlm : maxLen = 9223372036854775807 := rfl
    have HLM := Lib.hid hlm
    clear hs h6 h5 hown hnews hlm
    go_enter Try.func76, Try.ntmps76
    go_wp2_with (at_builtin; refine wpList_append_own _ rfl _ _ 28 rfl w.heap.size 104 i0 (.int .u32 0) 1 4 Try.underlying28 hi hz0 hz1 hz2 rfl (by decide) _ _ _ rfl HOWN.out ad a.length cap (a.map u32) rfl ?c1 HNEWS.out ?c3 ?c4 ?c5 ?c6 ?_)
    case c1 => simp
    case c3 => exact fun u hu => one_u32 hu
    case c4 => rw [HLM.out]; omega
    case c5 => omega
    case c6 => simp
    intro v' w1 hown' hgrow _
    have hs' := Sl.of_own (l := a) hown' h0
    have HS := Lib.hid hs'
    clear hs' hown'
    go_wp2
    go_ret
    exact ⟨_, rfl, HS.out, ((Below.refl _ w).alloc (Nat.le_refl _) _).grown hgrow (by simp) (fun k hk => by simp [Value.ownBlock] at hk; omega)⟩

section
open Go.ChangeShapes
theorem cells_u32 : Try.prog.cellsOf 104 = 1 := by kernel_rfl
theorem cells_ratio : Try.prog.cellsOf 30 = 3 := by kernel_rfl
theorem u32_wf {n : Int} (h : (Lit.int .u32 n).wf = true) : 0 ≤ n ∧ n < 4294967296 := by
  have h1 : IntKind.u32.min = 0 := rfl
  have h2 : IntKind.u32.max = 4294967295 := rfl
  simp [Lit.wf, h1, h2] at h
  omega
theorem slA_of_arg {H : Type} {enc : TypeId × Value → H} {W : World} {n : Nat} {v : Value} {y : DataW H × List MemPlace} (h : DataW.trod enc Try.prog W 0 (fun _ => true) true n 28 [v] = some y) : ∃ l, SlA W v l := by
  rcases open_ints Try.underlying28 Try.underlying104 cells_u32 h with ⟨hc, _⟩ | ⟨a, len, cap, zs, hc, _, hl, hm, hz, _, hcell, hw⟩
  · obtain rfl : v = .slice none 0 0 := by simpa using hc
    exact ⟨[], Lb.nil, none, 0, rfl, Nat.le_refl _, by omega, fun _ => rfl, fun h => absurd h (by simp)⟩
  · obtain rfl : v = .slice (some a) len cap := by simpa using hc
    simp at hz
    have hlen : ((zs.take len).map Int.toNat).length = len := by simp; omega
    refine ⟨(zs.take len).map Int.toNat, ?_, some a, cap, by rw [hlen], by rw [hlen]; exact hl, by unfold maxLen at hm; exact hm, (fun h => by cases h), fun h0 => ?_⟩
    · intro x hx
      obtain ⟨z, hz', rfl⟩ := List.mem_map.1 hx
      have := u32_wf (hw z (List.mem_of_mem_take hz'))
      omega
    · rw [hlen] at h0
      have hs : a.spot = none := by
        have := hcell 0 (by omega)
        simpa [Addr.add] using World.cell?_spot this
      obtain ⟨b, off, spot⟩ := a
      simp only at hs
      subst hs
      have hadd : ∀ j, (⟨b, off, none⟩ : Addr).add j = ⟨b, off + j, none⟩ := fun j => by unfold Addr.add; split <;> simp_all
      refine ⟨b, off, rfl, ?_, fun i hi => ?_⟩
      · have := hcell 0 (by omega)
        rw [hadd] at this
        exact World.block_lt_of_cell? _ _ this
      · rw [hlen] at hi
        have := hcell i (by omega)
        rw [hadd] at this
        rw [this, lim_get (by rw [hlen]; exact hi)]
        have hb := u32_wf (hw zs[i] (List.getElem_mem _))
        simp [List.getD, show i < zs.length by omega]
        omega
set_option maxRecDepth 100000 in
/-- An argument that is a fraction. -/
theorem open_ratio {H : Type} {enc : TypeId × Value → H} {W : World} {base : Nat} {v : Value} {d : DataW H} {p : List MemPlace} (hv : Value.okWide Try.prog W .any base 30 v) (h : DataW.Trod enc Try.prog W 0 (fun _ => true) true 30 v d p) : ∃ x, IsFA W v x := by
  obtain ⟨v0, v1, v2, y0, y1, y2, n, rfl, _, _, h0, h1, h2⟩ := Joins.open_agg3 Try.underlying30 (by kernel_rfl) cells_ratio hv h
  obtain ⟨b, hb, _⟩ := DataW.trod_bool Try.underlying4 h0
  obtain rfl : v0 = .bool b := by simpa using hb
  obtain ⟨l1, hl1⟩ := slA_of_arg h1
  obtain ⟨l2, hl2⟩ := slA_of_arg h2
  exact ⟨⟨b, l1, l2⟩, v1, v2, rfl, hl1, hl2⟩
end
end Go.Proofs.Ytjjefdkadgkhfaa
