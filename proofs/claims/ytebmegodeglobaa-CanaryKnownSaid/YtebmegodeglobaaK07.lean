/- Walks: both, turned, sum, Add, Sub.
   Walks: plus, minus.
   Walks: sum, Add, Sub.
   Walks: Add, Sub, Mul, Div. -/
import Derived.Test.YtebmegodeglobaaK06
import Derived.Deep.RegionHeld3
import Derived.Test.YtebmegodeglobaaK02
import Derived.Test.YtebmegodeglobaaK03
set_option linter.unusedVariables false
namespace Go.Proofs.Ytebmegodeglobaa
open Go.RowKit

/-- Two structs handed in, and a result struct: the three blocks that a function lays at its start. -/
theorem start3 (w : World) (A B C : Array Value) (t : TypeId) : ∃ W0, W0 = ((w.alloc (.cells A t)).alloc (.cells B t)).alloc (.cells C t) ∧
    Box W0 w.heap.size A t ∧ Box W0 (w.heap.size + 1) B t ∧ Box W0 (w.heap.size + 2) C t ∧ w.heap.size + 2 < W0.heap.size ∧ Below w.heap.size w W0 := by
  refine ⟨_, rfl, ((Box.new w A t).alloc _).alloc _, ?_, ?_, by simp, ?_⟩
  · have := (Box.new (w.alloc (.cells A t)) B t).alloc (.cells C t)
    simpa using this
  · have := Box.new ((w.alloc (.cells A t)).alloc (.cells B t)) C t
    simpa using this
  · exact (((Below.refl _ w).alloc (Nat.le_refl _) _).alloc (by simp) _).alloc (by simp; omega) _
theorem start2 (w : World) (A B : Array Value) (t : TypeId) : ∃ W0, W0 = (w.alloc (.cells A t)).alloc (.cells B t) ∧
    Box W0 w.heap.size A t ∧ Box W0 (w.heap.size + 1) B t ∧ w.heap.size + 1 < W0.heap.size ∧ Below w.heap.size w W0 := by
  refine ⟨_, rfl, (Box.new w A t).alloc _, ?_, by simp, ?_⟩
  · have := (Box.new (w.alloc (.cells A t)) B t)
    simpa using this
  · exact ((Below.refl _ w).alloc (Nat.le_refl _) _).alloc (by simp) _

/-- The three cells of a block. -/
theorem Box.cells3 {w : World} {b : Nat} {x y z : Value} {t : TypeId} (h : Box w b #[x, y, z] t) : w.cell? ⟨b, 0, none⟩ = some x ∧ w.cell? ⟨b, 1, none⟩ = some y ∧ w.cell? ⟨b, 2, none⟩ = some z :=
  ⟨h.cell 0, h.cell 1, h.cell 2⟩

set_option maxRecDepth 100000 in
set_option maxHeartbeats 1000000 in
theorem both_c (w : World) (v u : Value) (x y : F) (h : IsF w v x) (k : IsF w u y) : Calls Try.prog 38 #[v, u] w (RetC w (ValidF x ∧ ValidF y)) := by
  have HX := h
  have HY := k
  obtain ⟨va, vb, rfl, _, _⟩ := h
  obtain ⟨vc, vd, rfl, _, _⟩ := k
  obtain ⟨W0, hW, bx, by', hsz, hb0⟩ := start2 w #[.bool x.neg, va, vb] #[.bool y.neg, vc, vd] 26
  obtain ⟨c0, c1, c2⟩ := bx.cells3
  obtain ⟨d0, d1, d2⟩ := by'.cells3
  have H1 := Lib.hid (HX.after hb0)
  have H2 := Lib.hid (HY.after hb0)
  have HB0 := Lib.hid hb0
  clear HX HY bx by' hb0
  by_cases hx : ValidF x
  · have hx' := Lib.hid hx
    clear hx
    go_enter Try.func38, Try.ntmps38
    go_upto_region 1 with fail
    rw [← hW]
    clear hW
    go_wp2_with fail
    refine (Valid_c _ _ _ H1.out).mono ?_
    intro e w1 hr
    obtain ⟨rfl, hb1⟩ := hr.yes hx'.out
    obtain ⟨hc1, hf1⟩ := old_cells hb1
    have H3 := Lib.hid (H2.out.after hb1)
    have HB1 := Lib.hid (HB0.out.trans (hb1.mono HB0.out.size))
    clear hr hb1 H1 H2 HB0
    go_wp2_with fail
    refine (Valid_c _ _ _ H3.out).mono ?_
    rintro e w2 ⟨r, rfl, hr, hb2⟩
    have HR := Lib.hid hr
    have HB2 := Lib.hid hb2
    clear hr hb2 hc1 hf1
    go_wp2_with fail
    go_ret
    exact ⟨r, rfl, by rw [HR.out]; exact ⟨fun h => ⟨hx'.out, h⟩, fun h => h.2⟩, HB1.out.trans (HB2.out.mono HB1.out.size)⟩
  · have hx' := Lib.hid hx
    clear hx
    go_enter Try.func38, Try.ntmps38
    go_upto_region 1 with fail
    rw [← hW]
    clear hW
    go_wp2_with fail
    refine (Valid_c _ _ _ H1.out).mono ?_
    intro e w1 hr
    obtain ⟨rfl, hb1⟩ := hr.no hx'.out
    have HB1 := Lib.hid hb1
    clear hr hb1
    go_wp2_with fail
    go_ret
    exact ⟨false, rfl, by simp [hx'.out], HB0.out.trans (HB1.out.mono HB0.out.size)⟩

/-- The fraction with the other sign. -/
def turnF (x : F) : F := ⟨!x.neg && decide (0 < x.num.length), x.num, x.den⟩

/-- What a store of a whole struct into a result's block gives. -/
theorem IsF.at_ {w : World} {va vb : Value} {x : F} (h1 : Sl w va x.num) (h2 : Sl w vb x.den) : IsF w (.agg #[.bool x.neg, va, vb]) x := ⟨va, vb, rfl, h1, h2⟩

set_option maxRecDepth 100000 in
set_option maxHeartbeats 1000000 in
theorem turned_c (w : World) (v : Value) (x : F) (h : IsF w v x) : Calls Try.prog 71 #[v] w (RetF1 w (turnF x)) := by
  have HX := h
  obtain ⟨va, vb, rfl, ha, hb⟩ := h
  obtain ⟨p, cp, rfl, hp1, hp2⟩ := ha.shape
  obtain ⟨q, cq, rfl, hq1, hq2⟩ := hb.shape
  obtain ⟨W0, hW, bx, br, hsz, hb0⟩ := start2 w #[.bool x.neg, .slice p x.num.length cp, .slice q x.den.length cq] #[.bool false, .slice none 0 0, .slice none 0 0] 26
  obtain ⟨c0, c1, c2⟩ := bx.cells3
  obtain ⟨d0, d1, d2⟩ := br.cells3
  have f0 := bx.frozen 0
  have g0 := br.frozen 0
  have g1 := br.frozen 1
  have g2 := br.frozen 2
  have H1 := Lib.hid (ha.after hb0)
  have H2 := Lib.hid (hb.after hb0)
  have HB0 := Lib.hid hb0
  have BX := Lib.hid bx
  have BR := Lib.hid br
  have hnu : Hid (NoU #[.bool x.neg, .slice p x.num.length cp, .slice q x.den.length cq]) := NoU.three (fun _ h => by cases h) (fun _ h => by cases h) (fun _ h => by cases h)
  clear HX ha hb bx br hb0
  cases hng : x.neg with
  | true =>
    have e : Hid (turnF x = ⟨false, x.num, x.den⟩) := by show turnF x = _; unfold turnF; rw [hng]; rfl
    have HNG := Lib.hid hng
    rw [hng] at hW c0 BX hnu
    clear hng
    go_enter Try.func71, Try.ntmps71
    go_upto_region 1 with fail
    rw [← hW]
    clear hW
    go_wp2_with fail
    refine bodyPost_ret (v := .agg #[.bool false, .slice p x.num.length cp, .slice q x.den.length cq]) (by simp [results, Try.results71, go_sem, d0, d1, d2]) rfl ?_
    rw [e.out]
    have hbr := (BR.out.far (p := ⟨w.heap.size, 0, none⟩) (by simp) (.bool false))
    refine ⟨_, rfl, IsF.result hbr (fun _ h => by cases h) (fun _ h => by cases h) (H1.out.box BX.out hnu.out 0 _) (H2.out.box BX.out hnu.out 0 _), ?_⟩
    exact (((HB0.out.setCell (Nat.le_refl _) _).setCell (by simp) _).setCell (by simp) _).setCell (by simp) _
  | false =>
    rw [hng] at hW c0 BX hnu
    have HNG := Lib.hid hng
    clear hng
    rcases Nat.lt_or_ge 0 x.num.length with hl | hl
    · have e : Hid (turnF x = ⟨true, x.num, x.den⟩) := by show turnF x = _; unfold turnF; rw [HNG.out]; simp [hl]
      go_enter Try.func71, Try.ntmps71
      go_upto_region 1 with fail
      rw [← hW]
      clear hW
      go_wp2_with fail
      refine bodyPost_ret (v := .agg #[.bool true, .slice p x.num.length cp, .slice q x.den.length cq]) (by simp [results, Try.results71, go_sem, d0, d1, d2]) rfl ?_
      rw [e.out]
      have hbr := (BR.out.far (p := ⟨w.heap.size, 0, none⟩) (by simp) (.bool true))
      refine ⟨_, rfl, IsF.result hbr (fun _ h => by cases h) (fun _ h => by cases h) (H1.out.box BX.out hnu.out 0 _) (H2.out.box BX.out hnu.out 0 _), ?_⟩
      exact (((HB0.out.setCell (Nat.le_refl _) _).setCell (by simp) _).setCell (by simp) _).setCell (by simp) _
    · have hlen : x.num.length = 0 := by omega
      have e : Hid (turnF x = ⟨false, x.num, x.den⟩) := by show turnF x = _; unfold turnF; rw [HNG.out, hlen]; rfl
      rw [hlen] at hW c1 BX hnu H1
      rw [hlen]
      clear hlen hl hp1
      go_enter Try.func71, Try.ntmps71
      go_upto_region 1 with fail
      rw [← hW]
      clear hW
      go_wp2_with fail
      refine bodyPost_ret (v := .agg #[.bool false, .slice p 0 cp, .slice q x.den.length cq]) (by simp [results, Try.results71, go_sem, d0, d1, d2]) rfl ?_
      rw [e.out]
      have hbr := (BR.out.far (p := ⟨w.heap.size, 0, none⟩) (by simp) (.bool false))
      refine ⟨_, rfl, IsF.result hbr (fun _ h => by cases h) (fun _ h => by cases h) (H1.out.box BX.out hnu.out 0 _) (H2.out.box BX.out hnu.out 0 _), ?_⟩
      exact (((HB0.out.setCell (Nat.le_refl _) _).setCell (by simp) _).setCell (by simp) _).setCell (by simp) _
end Go.Proofs.Ytebmegodeglobaa

namespace Go.Proofs.Ytebmegodeglobaa
open Go.RowKit

set_option maxRecDepth 100000 in
set_option maxHeartbeats 1000000 in
theorem plus_main (w : World) (va vb : Value) (args : Array Value) (a b : List Nat) (h : Sl w va a) (k : Sl w vb b) (hl : b.length ≤ a.length) (ha : a.length ≤ 1000000)
    (hargs : args = #[va, vb] ∨ args = #[vb, va] ∧ b.length < a.length) :
    Calls Try.prog 59 args w (RetNat w (val a + val b)) := by
  have hs := h
  have ks := k
  obtain ⟨h0, p, cap, rfl, h2, h3, h5, h6⟩ := h
  obtain ⟨k0, q, cap', rfl, k2, k3, k5, k6⟩ := k
  have HS := Lib.hid hs
  have KS := Lib.hid ks
  clear hs ks h5 h6 k5 k6
  have hmk := run_make32 (a.length + 1) (by omega)
  rw [show ((a.length + 1 : Nat) : Int) = (a.length : Int) + 1 from by omega] at hmk
  rcases hargs with rfl | ⟨rfl, hsw⟩
  all_goals
    have hnl : ¬ a.length < b.length := by omega
    go_enter Try.func59, Try.ntmps59
    go_wp2
    go_loopw [6, 23] (fun c t wr => ∃ (i x : Nat) (o : List Nat), i ≤ a.length ∧ x ≤ 1 ∧ c = .int .u32 (x : Int) ∧ t = .int .i64 (i : Int) ∧ Row32 wr w.heap.size o ∧ Hid (PlusRel a b o i x) ∧ Below w.heap.size w wr) (fun _ t _ => a.length - (intOf t).toNat)
    case atStart => exact ⟨0, 0, _, Nat.zero_le _, by omega, rfl, rfl, Row32.made w _, PlusRel.start a b, (Below.refl _ w).alloc (Nat.le_refl _) _⟩
    case round =>
      obtain ⟨i, x, o, hi, hx, rfl, rfl, hrow, hrel, hbl⟩ := hrel
      obtain ⟨r1, r2, _, _, _⟩ := hrel.out
      by_cases hlt : i < a.length
      · have hsz := hbl.size
        obtain ⟨_, _, _, hv, _, _, _, h6⟩ := HS.out
        obtain ⟨rfl, rfl⟩ : p = _ ∧ cap = _ := by simpa using hv
        obtain ⟨b1, o1, rfl, hb1, hc1⟩ := h6 (by omega)
        have hca : wr.cell? ⟨b1, o1 + i, none⟩ = some (.int .u32 ((lim a i : Nat) : Int)) := (hbl.cell (p := ⟨b1, o1 + i, none⟩) hb1).trans (hc1 i hlt)
        have hrc := hrow.cell (i := i) (by omega)
        have hrf := hrow.frozen i
        have HROW := Lib.hid hrow
        have hax := h0.getD i
        have hbx := k0.getD i
        clear hc1 h6 hv hrow hmk
        by_cases hlb : i < b.length
        · obtain ⟨_, _, _, hv, _, _, _, k6⟩ := KS.out
          obtain ⟨rfl, rfl⟩ : q = _ ∧ cap' = _ := by simpa using hv
          obtain ⟨b2, o2, rfl, hb2, hc2⟩ := k6 (by omega)
          have hcb : wr.cell? ⟨b2, o2 + i, none⟩ = some (.int .u32 ((lim b i : Nat) : Int)) := (hbl.cell (p := ⟨b2, o2 + i, none⟩) hb2).trans (hc2 i hlb)
          clear hc2 k6 hv
          go_wp2_with fail
          refine (add32_c _ _ _ hax hbx hx _).mono ?_
          rintro e w' ⟨rfl, rfl⟩
          go_wp2
          go_roundw
          case rel => exact ⟨i + 1, _, _, by omega, addHi_le hax hbx hx, rfl, by go_num, HROW.out.set i _, hrel.out.step h0 k0 hlt, hbl.setCell (Nat.le_refl _) _⟩
          case measure => simp [intOf]; omega
        · have hz : lim b i = 0 := getD_ge (by omega)
          go_wp2_with fail
          refine (add32_c _ 0 _ hax (by omega) hx _).mono ?_
          rintro e w' ⟨rfl, rfl⟩
          go_wp2
          go_roundw
          case rel => exact ⟨i + 1, _, _, by omega, addHi_le hax (by omega) hx, rfl, by go_num, HROW.out.set i _, by have := hrel.out.step h0 k0 hlt; rw [hz] at this; exact this, hbl.setCell (Nat.le_refl _) _⟩
          case measure => simp [intOf]; omega
      · obtain rfl : i = a.length := by omega
        have hrc := hrow.cell (i := a.length) (by omega)
        have hrf := hrow.frozen a.length
        have hsz := hbl.size
        have hr2 := hrow.set a.length x
        obtain ⟨d1, d2, d3⟩ := hrel.out.done hl
        have hs2 := Sl.of_row (cap := a.length + 1) hr2 d2 (by omega) (by omega)
        rw [d3] at hs2
        have HS2 := Lib.hid hs2
        have D1 := Lib.hid d1
        clear hrow hmk r1 hs2 d1 d2 d3 hr2
        go_wp2_with fail
        refine (trim_c _ _ _ HS2.out).mono ?_
        rw [D1.out]
        rintro e w' ⟨⟨a', cap'', hv, rfl, hs'⟩, rfl⟩
        clear hv
        have HS' := Lib.hid hs'
        clear hs'
        go_wp2
        go_ret
        exact ⟨_, rfl, HS'.out, hbl.setCell (Nat.le_refl _) _⟩

/-- plus: the sum, as a number of its own. -/
theorem plus_c (w : World) (va vb : Value) (a b : List Nat) (h : Sl w va a) (k : Sl w vb b) (ha : a.length ≤ 1000000) (hb : b.length ≤ 1000000) :
    Calls Try.prog 59 #[va, vb] w (RetNat w (val a + val b)) := by
  by_cases hl : b.length ≤ a.length
  · exact plus_main w va vb _ a b h k hl ha (.inl rfl)
  · rw [Nat.add_comm]
    exact plus_main w vb va _ b a k h (by omega) hb (.inr ⟨rfl, by omega⟩)

set_option maxRecDepth 100000 in
set_option maxHeartbeats 1000000 in
/-- minus: the difference, as a number of its own. -/
theorem minus_c (w : World) (va vb : Value) (a b : List Nat) (h : Sl w va a) (k : Sl w vb b) (hl : b.length ≤ a.length) (hle : val b ≤ val a) (ha : a.length ≤ 1000000) :
    Calls Try.prog 61 #[va, vb] w (RetNat w (val a - val b)) := by
  have hs := h
  have ks := k
  obtain ⟨h0, p, cap, rfl, h2, h3, h5, h6⟩ := h
  obtain ⟨k0, q, cap', rfl, k2, k3, k5, k6⟩ := k
  have HS := Lib.hid hs
  have KS := Lib.hid ks
  clear hs ks h5 h6 k5 k6
  have hmk := run_make32 a.length (by omega)
  go_enter Try.func61, Try.ntmps61
  go_wp2
  go_loopw [6, 15] (fun c t wr => ∃ (i x : Nat) (o : List Nat), i ≤ a.length ∧ x ≤ 1 ∧ c = .int .u32 (x : Int) ∧ t = .int .i64 (i : Int) ∧ Row32 wr w.heap.size o ∧ Hid (MinusRel a b o i x) ∧ Below w.heap.size w wr) (fun _ t _ => a.length - (intOf t).toNat)
  case atStart => exact ⟨0, 0, _, Nat.zero_le _, by omega, rfl, rfl, Row32.made w _, MinusRel.start a b, (Below.refl _ w).alloc (Nat.le_refl _) _⟩
  case round =>
    obtain ⟨i, x, o, hi, hx, rfl, rfl, hrow, hrel, hbl⟩ := hrel
    obtain ⟨r1, r2, _, _, _⟩ := hrel.out
    by_cases hlt : i < a.length
    · have hsz := hbl.size
      obtain ⟨_, _, _, hv, _, _, _, h6⟩ := HS.out
      obtain ⟨rfl, rfl⟩ : p = _ ∧ cap = _ := by simpa using hv
      obtain ⟨b1, o1, rfl, hb1, hc1⟩ := h6 (by omega)
      have hca : wr.cell? ⟨b1, o1 + i, none⟩ = some (.int .u32 ((lim a i : Nat) : Int)) := (hbl.cell (p := ⟨b1, o1 + i, none⟩) hb1).trans (hc1 i hlt)
      have hrc := hrow.cell (i := i) (by omega)
      have hrf := hrow.frozen i
      have HROW := Lib.hid hrow
      have hax := h0.getD i
      have hbx := k0.getD i
      clear hc1 h6 hv hrow hmk
      by_cases hlb : i < b.length
      · obtain ⟨_, _, _, hv, _, _, _, k6⟩ := KS.out
        obtain ⟨rfl, rfl⟩ : q = _ ∧ cap' = _ := by simpa using hv
        obtain ⟨b2, o2, rfl, hb2, hc2⟩ := k6 (by omega)
        have hcb : wr.cell? ⟨b2, o2 + i, none⟩ = some (.int .u32 ((lim b i : Nat) : Int)) := (hbl.cell (p := ⟨b2, o2 + i, none⟩) hb2).trans (hc2 i hlb)
        clear hc2 k6 hv
        go_wp2_with fail
        refine (sub32_c _ _ _ hax hbx hx _).mono ?_
        rintro e w' ⟨rfl, rfl⟩
        go_wp2
        go_roundw
        case rel => exact ⟨i + 1, _, _, by omega, subHi_le _ _ _, rfl, by go_num, HROW.out.set i _, hrel.out.step h0 k0 hlt, hbl.setCell (Nat.le_refl _) _⟩
        case measure => simp [intOf]; omega
      · have hz : lim b i = 0 := getD_ge (by omega)
        go_wp2_with fail
        refine (sub32_c _ 0 _ hax (by omega) hx _).mono ?_
        rintro e w' ⟨rfl, rfl⟩
        go_wp2
        go_roundw
        case rel => exact ⟨i + 1, _, _, by omega, subHi_le _ _ _, rfl, by go_num, HROW.out.set i _, by have := hrel.out.step h0 k0 hlt; rw [hz] at this; exact this, hbl.setCell (Nat.le_refl _) _⟩
        case measure => simp [intOf]; omega
    · obtain rfl : i = a.length := by omega
      have hsz := hbl.size
      have hs2 := Sl.of_row (cap := a.length) hrow r2 (by omega) (by omega)
      rw [r1] at hs2
      have hd := hrel.out.done hl hle
      have HS2 := Lib.hid hs2
      have D1 := Lib.hid hd
      clear hrow hmk r1 hs2 hd
      go_wp2_with fail
      refine (trim_c _ _ _ HS2.out).mono ?_
      rw [D1.out]
      rintro e w' ⟨⟨a', cap'', hv, rfl, hs'⟩, rfl⟩
      clear hv
      have HS' := Lib.hid hs'
      clear hs'
      go_wp2
      go_ret
      exact ⟨_, rfl, HS'.out, hbl⟩
end Go.Proofs.Ytebmegodeglobaa

namespace Go.Proofs.Ytebmegodeglobaa
open Go.RowKit

theorem below_of_drew {W w : World} (h : Below W.drew.heap.size W.drew w) : Below W.heap.size W w := ⟨h.os, h.tape, h.output, h.size, h.block⟩
theorem below_of_drewN {W w : World} {n : Nat} (h : Below (W.drewN n).heap.size (W.drewN n) w) : Below W.heap.size W w := ⟨h.os, h.tape, h.output, h.size, h.block⟩
theorem times_n (w : World) (va vb : Value) (a b : Nat) (h : Sl w va (limbs a)) (k : Sl w vb (limbs b)) (ha : (limbs a).length ≤ 1000000) (hb : (limbs b).length ≤ 1000000) :
    Calls Try.prog 40 #[va, vb] w (RetNat w (a * b)) := by
  have := times_c w va vb _ _ h k ha hb; rwa [val_limbs, val_limbs] at this
theorem plus_n (w : World) (va vb : Value) (a b : Nat) (h : Sl w va (limbs a)) (k : Sl w vb (limbs b)) (ha : (limbs a).length ≤ 1000000) (hb : (limbs b).length ≤ 1000000) :
    Calls Try.prog 59 #[va, vb] w (RetNat w (a + b)) := by
  have := plus_c w va vb _ _ h k ha hb; rwa [val_limbs, val_limbs] at this
theorem minus_n (w : World) (va vb : Value) (a b : Nat) (h : Sl w va (limbs a)) (k : Sl w vb (limbs b)) (hle : b ≤ a) (ha : (limbs a).length ≤ 1000000) :
    Calls Try.prog 61 #[va, vb] w (RetNat w (a - b)) := by
  have := minus_c w va vb _ _ h k (limbs_len_mono hle) (by rw [val_limbs, val_limbs]; exact hle) ha; rwa [val_limbs, val_limbs] at this

/-- The sum of two fractions, by numbers. -/
noncomputable def sumN (n1 : Bool) (a b : Nat) (n2 : Bool) (c d : Nat) : F × Int :=
  if n1 = n2 then made n1 (a * d + c * b) (b * d) else if a * d < c * b then made n2 (c * b - a * d) (b * d) else made n1 (a * d - c * b) (b * d)

set_option maxRecDepth 100000 in
set_option maxHeartbeats 1000000 in
theorem sum_c (w : World) (v u : Value) (n1 n2 : Bool) (a b c d : Nat) (h : IsF w v (fr n1 a b)) (k : IsF w u (fr n2 c d)) (hb : 0 < b) (hd : 0 < d)
    (la : (limbs a).length ≤ 1000) (lb : (limbs b).length ≤ 1000) (lc : (limbs c).length ≤ 1000) (ld : (limbs d).length ≤ 1000) :
    Calls Try.prog 39 #[v, u] w (RetF w (sumN n1 a b n2 c d)) := by
  obtain ⟨va, vb, rfl, ha', hb'⟩ := h
  obtain ⟨vc, vd, rfl, hc', hd'⟩ := k
  simp only [fr] at ha' hb' hc' hd'
  simp only [fr]
  obtain ⟨W0, hW, bx, by', br, hsz, hb0⟩ := start3 w #[.bool n1, va, vb] #[.bool n2, vc, vd] #[.bool false, .slice none 0 0, .slice none 0 0] 26
  obtain ⟨c0, c1, c2⟩ := bx.cells3
  obtain ⟨d0, d1, d2⟩ := by'.cells3
  have H1 := Lib.hid (ha'.after hb0)
  have H2 := Lib.hid (hb'.after hb0)
  have H3 := Lib.hid (hc'.after hb0)
  have H4 := Lib.hid (hd'.after hb0)
  have HB0 := Lib.hid hb0
  have BX := Lib.hid bx
  have BY := Lib.hid by'
  have BR := Lib.hid br
  have l1 : Hid ((limbs (a * d)).length ≤ 2000) := Nat.le_trans (limbs_mul_len a d) (by omega)
  have l2 : Hid ((limbs (c * b)).length ≤ 2000) := Nat.le_trans (limbs_mul_len c b) (by omega)
  have l3 : Hid ((limbs (b * d)).length ≤ 2000) := Nat.le_trans (limbs_mul_len b d) (by omega)
  clear ha' hb' hc' hd' bx by' br hb0
  go_enter Try.func39, Try.ntmps39
  go_upto_region 1 with fail
  rw [← hW]
  clear hW
  go_region_held3 (fun w' => w'.cell? ⟨w.heap.size, 1, none⟩ = some va ∧ w'.cell? ⟨w.heap.size + 1, 2, none⟩ = some vd ∧ w'.cell? ⟨w.heap.size + 1, 1, none⟩ = some vc ∧ w'.cell? ⟨w.heap.size, 2, none⟩ = some vb)
    (first
     | go_keep
     | (exact ⟨keep_cell hb1 c1, keep_cell hb1 d2, keep_cell hb1 d1, keep_cell hb1 c2⟩)
     | (exact ⟨keep_cell hb2 (keep_cell hb1 c1), keep_cell hb2 (keep_cell hb1 d2), keep_cell hb2 (keep_cell hb1 d1), keep_cell hb2 (keep_cell hb1 c2)⟩))
    (first
     | (go_at_call_of 40 va; refine (times_n _ va vd a d ?_ ?_ ?_ ?_).mono ?_; exact H1.out; exact H4.out; omega; omega; rintro e w1 ⟨vp, rfl, hp, hb1⟩)
     | (go_at_call_of 40 vc; refine (times_n _ vc vb c b ?_ ?_ ?_ ?_).mono ?_; exact Sl.after (w := W0.drew) H3.out hb1; exact Sl.after (w := W0.drew) H2.out hb1; omega; omega; rintro e w2 ⟨vq, rfl, hq, hb2⟩))
  have hbW : Below W0.heap.size W0 w2 := below_of_drew (hb1.trans (hb2.mono hb1.size))
  have K1 := Lib.hid (Sl.after hp hb2)
  have K2 := Lib.hid hq
  have K3 := Lib.hid (H2.out.after hbW)
  have K4 := Lib.hid (H4.out.after hbW)
  have KW := Lib.hid hbW
  have x0 := keep_cell hbW c0
  have x1 := keep_cell hbW c1
  have x2 := keep_cell hbW c2
  have y0 := keep_cell hbW d0
  have y1 := keep_cell hbW d1
  have y2 := keep_cell hbW d2
  clear hp hq hb1 hb2 hbW H1 H2 H3 H4 c0 c1 c2 d0 d1 d2
  go_wp2_with fail
  refine (times_n _ vb vd b d K3.out K4.out (by omega) (by omega)).mono ?_
  rintro e w3 ⟨vr, rfl, hr, hb3⟩
  have L1 := Lib.hid (K1.out.after hb3)
  have L2 := Lib.hid (K2.out.after hb3)
  have L3 := Lib.hid hr
  have LW := Lib.hid (KW.out.trans (hb3.mono KW.out.size))
  have z0 := keep_cell hb3 x0
  have z3 := keep_cell hb3 y0
  clear hr hb3 K1 K2 K3 K4 KW x0 x1 x2 y0 y1 y2
  have hsum : Hid (sumN n1 a b n2 c d = if n1 = n2 then made n1 (a * d + c * b) (b * d) else if a * d < c * b then made n2 (c * b - a * d) (b * d) else made n1 (a * d - c * b) (b * d)) := rfl
  have hbd : 0 < b * d := Nat.mul_pos hb hd
  generalize a * d = ad at *
  generalize c * b = cb at *
  generalize b * d = bd at *
  by_cases hn : n1 = n2
  · have hs : Hid (sumN n1 a b n2 c d = made n1 (ad + cb) bd) := by show _ = _; rw [hsum.out, if_pos hn]
    subst hn
    clear hsum
    go_wp2_with fail
    refine (reduced_c _ _).mono ?_
    rintro e w' ⟨rfl, rfl⟩
    go_wp2_with fail
    refine (plus_n _ vp vq ad cb (L1.out.alloc _) (L2.out.alloc _) (by have := l1.out; omega) (by have := l2.out; omega)).mono ?_
    rintro e w4 ⟨vs, rfl, hs4, hb4⟩
    have hcap := keep_cell hb4 (b := w3.heap.size) (o := 0) (v := .bool n1) (by simp)
    have hcs := hs4.shape
    have M3 := Lib.hid ((L3.out.alloc (.cells #[.bool n1] 4)).after hb4)
    have M1 := Lib.hid hs4
    have hw4 : Below W0.heap.size W0 w4 := (LW.out.alloc LW.out.size _).trans (hb4.mono (by have := LW.out.size; simp; omega))
    have MW := Lib.hid hw4
    have HCAP := Lib.hid hcap
    clear hs4 hb4 hcap hw4 hcs
    go_wp2_with fail
    refine (reduced1_c w4 vs vr (ad + cb) bd w3.heap.size n1 M1.out M3.out hbd HCAP.out (by have := limbs_add_len ad cb; have := l1.out; have := l2.out; omega) (by have := l3.out; omega)).mono ?_
    rw [← hs.out]
    rintro e w5 ⟨v5, rfl, hv5, hb5⟩
    obtain ⟨va5, vb5, rfl, h51, h52⟩ := hv5
    have bx5 := BR.out.after (MW.out.trans (hb5.mono MW.out.size))
    obtain ⟨p, cp, rfl, hp1, hp2⟩ := h51.shape
    obtain ⟨q, cq, rfl, hq1, hq2⟩ := h52.shape
    obtain ⟨r0, r1, r2⟩ := bx5.cells3
    have f0 := bx5.frozen 0
    have f1 := bx5.frozen 1
    have f2 := bx5.frozen 2
    have bw5 := HB0.out.trans ((MW.out.trans (hb5.mono MW.out.size)).mono HB0.out.size)
    generalize hof2 : sumN n1 a b n1 c d = o at *
    obtain ⟨⟨neg, A, B⟩, er⟩ := o
    have HVA := Lib.hid h51
    have HVB := Lib.hid h52
    have BX5 := Lib.hid bx5
    have BW5 := Lib.hid bw5
    clear h51 h52 bx5 bw5 hb5 M1 M3 MW HCAP hs hof2
    simp only at HVA HVB
    go_wp2_with fail
    refine bodyPost_ret (v := .tuple #[.agg #[.bool neg, .slice p A.length cp, .slice q B.length cq], .int .i64 er]) (by simp [results, Try.results39, go_sem, r0, r1, r2]) rfl ?_
    exact ⟨_, rfl, IsF.result BX5.out (fun _ h => by cases h) (fun _ h => by cases h) HVA.out HVB.out, ((BW5.out.setCell (p := ⟨w.heap.size + 2, 0, none⟩) (by simp) _).setCell (p := ⟨w.heap.size + 2, 1, none⟩) (by simp) _).setCell (p := ⟨w.heap.size + 2, 2, none⟩) (by simp) _⟩
  · have hnb : (n1 == n2) = false := by simpa using hn
    go_wp2_with fail
    refine (compare_c _ _ _ _ _ L1.out L2.out).mono ?_
    rintro e w' ⟨r, rfl, hr, nk, rfl⟩
    obtain ⟨w3', hw3'⟩ : ∃ w3', w3' = w3.drewN nk := ⟨_, rfl⟩
    have z0' : w3'.cell? ⟨w.heap.size, 0, none⟩ = some (.bool n1) := by rw [hw3']; exact z0
    have z3' : w3'.cell? ⟨w.heap.size + 1, 0, none⟩ = some (.bool n2) := by rw [hw3']; exact z3
    have L1' : Hid (Sl w3' vp (limbs ad)) := by rw [hw3']; exact L1.out.drewN nk
    have L2' : Hid (Sl w3' vq (limbs cb)) := by rw [hw3']; exact L2.out.drewN nk
    have L3' : Hid (Sl w3' vr (limbs bd)) := by rw [hw3']; exact L3.out.drewN nk
    have LW' : Hid (Below W0.heap.size W0 w3') := by rw [hw3']; exact LW.out.trans (below_drewN _ _ _)
    rw [← hw3']
    have hrlt := hr.lt
    clear hw3' L1 L2 L3 LW z0 z3 hr
    by_cases hlt : ad < cb
    · have hs : Hid (sumN n1 a b n2 c d = made n2 (cb - ad) bd) := by show _ = _; rw [hsum.out, if_neg hn, if_pos hlt]
      have hr' : r < 0 := hrlt.2 hlt
      clear hsum hrlt
      go_wp2_with fail
      refine (reduced_c _ _).mono ?_
      rintro e w' ⟨rfl, rfl⟩
      go_wp2_with fail
      refine (minus_n _ vq vp cb ad (L2'.out.alloc _) (L1'.out.alloc _) (Nat.le_of_lt hlt) (by have := l2.out; omega)).mono ?_
      rintro e w4 ⟨vs, rfl, hs4, hb4⟩
      have hcap := keep_cell hb4 (b := w3'.heap.size) (o := 0) (v := .bool n2) (by simp)
      have hcs := hs4.shape
      have M3 := Lib.hid ((L3'.out.alloc (.cells #[.bool n2] 4)).after hb4)
      have M1 := Lib.hid hs4
      have hw4 : Below W0.heap.size W0 w4 := (LW'.out.alloc LW'.out.size _).trans (hb4.mono (by have := LW'.out.size; simp; omega))
      have MW := Lib.hid hw4
      have HCAP := Lib.hid hcap
      clear hs4 hb4 hcap hw4 hcs
      go_wp2_with fail
      refine (reduced1_c w4 vs vr (cb - ad) bd w3'.heap.size n2 M1.out M3.out hbd HCAP.out (by have := limbs_len_mono (Nat.sub_le cb ad); have := l2.out; omega) (by have := l3.out; omega)).mono ?_
      rw [← hs.out]
      rintro e w5 ⟨v5, rfl, hv5, hb5⟩
      obtain ⟨va5, vb5, rfl, h51, h52⟩ := hv5
      have bx5 := BR.out.after (MW.out.trans (hb5.mono MW.out.size))
      obtain ⟨p, cp, rfl, hp1, hp2⟩ := h51.shape
      obtain ⟨q, cq, rfl, hq1, hq2⟩ := h52.shape
      obtain ⟨r0, r1, r2⟩ := bx5.cells3
      have f0 := bx5.frozen 0
      have f1 := bx5.frozen 1
      have f2 := bx5.frozen 2
      have bw5 := HB0.out.trans ((MW.out.trans (hb5.mono MW.out.size)).mono HB0.out.size)
      generalize hof2 : sumN n1 a b n2 c d = o at *
      obtain ⟨⟨neg, A, B⟩, er⟩ := o
      have HVA := Lib.hid h51
      have HVB := Lib.hid h52
      have BX5 := Lib.hid bx5
      have BW5 := Lib.hid bw5
      clear h51 h52 bx5 bw5 hb5 M1 M3 MW HCAP hs hof2
      simp only at HVA HVB
      go_wp2_with fail
      refine bodyPost_ret (v := .tuple #[.agg #[.bool neg, .slice p A.length cp, .slice q B.length cq], .int .i64 er]) (by simp [results, Try.results39, go_sem, r0, r1, r2]) rfl ?_
      exact ⟨_, rfl, IsF.result BX5.out (fun _ h => by cases h) (fun _ h => by cases h) HVA.out HVB.out, ((BW5.out.setCell (p := ⟨w.heap.size + 2, 0, none⟩) (by simp) _).setCell (p := ⟨w.heap.size + 2, 1, none⟩) (by simp) _).setCell (p := ⟨w.heap.size + 2, 2, none⟩) (by simp) _⟩
    · have hs : Hid (sumN n1 a b n2 c d = made n1 (ad - cb) bd) := by show _ = _; rw [hsum.out, if_neg hn, if_neg hlt]
      have hr' : ¬ r < 0 := fun h => hlt (hrlt.1 h)
      clear hsum hrlt
      go_wp2_with fail
      refine (reduced_c _ _).mono ?_
      rintro e w' ⟨rfl, rfl⟩
      go_wp2_with fail
      refine (minus_n _ vp vq ad cb (L1'.out.alloc _) (L2'.out.alloc _) (Nat.le_of_not_lt hlt) (by have := l1.out; omega)).mono ?_
      rintro e w4 ⟨vs, rfl, hs4, hb4⟩
      have hcap := keep_cell hb4 (b := w3'.heap.size) (o := 0) (v := .bool n1) (by simp)
      have hcs := hs4.shape
      have M3 := Lib.hid ((L3'.out.alloc (.cells #[.bool n1] 4)).after hb4)
      have M1 := Lib.hid hs4
      have hw4 : Below W0.heap.size W0 w4 := (LW'.out.alloc LW'.out.size _).trans (hb4.mono (by have := LW'.out.size; simp; omega))
      have MW := Lib.hid hw4
      have HCAP := Lib.hid hcap
      clear hs4 hb4 hcap hw4 hcs
      go_wp2_with fail
      refine (reduced1_c w4 vs vr (ad - cb) bd w3'.heap.size n1 M1.out M3.out hbd HCAP.out (by have := limbs_len_mono (Nat.sub_le ad cb); have := l1.out; omega) (by have := l3.out; omega)).mono ?_
      rw [← hs.out]
      rintro e w5 ⟨v5, rfl, hv5, hb5⟩
      obtain ⟨va5, vb5, rfl, h51, h52⟩ := hv5
      have bx5 := BR.out.after (MW.out.trans (hb5.mono MW.out.size))
      obtain ⟨p, cp, rfl, hp1, hp2⟩ := h51.shape
      obtain ⟨q, cq, rfl, hq1, hq2⟩ := h52.shape
      obtain ⟨r0, r1, r2⟩ := bx5.cells3
      have f0 := bx5.frozen 0
      have f1 := bx5.frozen 1
      have f2 := bx5.frozen 2
      have bw5 := HB0.out.trans ((MW.out.trans (hb5.mono MW.out.size)).mono HB0.out.size)
      generalize hof2 : sumN n1 a b n2 c d = o at *
      obtain ⟨⟨neg, A, B⟩, er⟩ := o
      have HVA := Lib.hid h51
      have HVB := Lib.hid h52
      have BX5 := Lib.hid bx5
      have BW5 := Lib.hid bw5
      clear h51 h52 bx5 bw5 hb5 M1 M3 MW HCAP hs hof2
      simp only at HVA HVB
      go_wp2_with fail
      refine bodyPost_ret (v := .tuple #[.agg #[.bool neg, .slice p A.length cp, .slice q B.length cq], .int .i64 er]) (by simp [results, Try.results39, go_sem, r0, r1, r2]) rfl ?_
      exact ⟨_, rfl, IsF.result BX5.out (fun _ h => by cases h) (fun _ h => by cases h) HVA.out HVB.out, ((BW5.out.setCell (p := ⟨w.heap.size + 2, 0, none⟩) (by simp) _).setCell (p := ⟨w.heap.size + 2, 1, none⟩) (by simp) _).setCell (p := ⟨w.heap.size + 2, 2, none⟩) (by simp) _⟩
end Go.Proofs.Ytebmegodeglobaa

namespace Go.Proofs.Ytebmegodeglobaa
open Go.RowKit

theorem reduced_o (w : World) (neg : Bool) :
    Calls Try.prog 37 #[.bool neg] w fun e w' => ∃ g, e = .returned (.func (.func 55) #[] #[.pointer (some ⟨g, 0, none⟩)]) ∧ w'.cell? ⟨g, 0, none⟩ = some (.bool neg) ∧ Below w.heap.size w w' := by
  refine (reduced_c w neg).mono ?_
  rintro e w' ⟨rfl, rfl⟩
  exact ⟨_, rfl, by simp, (Below.refl _ w).alloc (Nat.le_refl _) _⟩

/-- An operation on two valid fractions; otherwise ErrArg. -/
noncomputable def opF (g : Bool → Nat → Nat → Bool → Nat → Nat → F × Int) (x y : F) : F × Int :=
  open Classical in if ValidF x ∧ ValidF y then g x.neg (val x.num) (val x.den) y.neg (val y.num) (val y.den) else (F0, 1)
noncomputable def mulN (n1 : Bool) (a b : Nat) (n2 : Bool) (c d : Nat) : F × Int := made (!(n1 == n2)) (a * c) (b * d)
noncomputable def divN (n1 : Bool) (a b : Nat) (n2 : Bool) (c d : Nat) : F × Int := if c = 0 then (F0, 2) else made (!(n1 == n2)) (a * d) (b * c)
noncomputable def subN (n1 : Bool) (a b : Nat) (n2 : Bool) (c d : Nat) : F × Int := sumN n1 a b (!n2 && decide (0 < c)) c d

theorem opF_yes {g : Bool → Nat → Nat → Bool → Nat → Nat → F × Int} {x y : F} (h : ValidF x ∧ ValidF y) : opF g x y = g x.neg (val x.num) (val x.den) y.neg (val y.num) (val y.den) := by
  unfold opF; rw [if_pos h]
theorem opF_no {g : Bool → Nat → Nat → Bool → Nat → Nat → F × Int} {x y : F} (h : ¬ (ValidF x ∧ ValidF y)) : opF g x y = (F0, 1) := by
  unfold opF; rw [if_neg h]

/-- Six cells kept over a store of a struct elsewhere. -/
theorem keep6s {W : World} {x y R : Nat} {a b c d e f u0 u1 u2 : Value} (hx : R ≠ x) (hy : R ≠ y)
    (h : W.cell? ⟨x, 0, none⟩ = some a ∧ W.cell? ⟨x, 1, none⟩ = some b ∧ W.cell? ⟨x, 2, none⟩ = some c ∧ W.cell? ⟨y, 0, none⟩ = some d ∧ W.cell? ⟨y, 1, none⟩ = some e ∧ W.cell? ⟨y, 2, none⟩ = some f) :
    (((W.setCell ⟨R, 0, none⟩ u0).setCell ⟨R, 1, none⟩ u1).setCell ⟨R, 2, none⟩ u2).cell? ⟨x, 0, none⟩ = some a ∧ (((W.setCell ⟨R, 0, none⟩ u0).setCell ⟨R, 1, none⟩ u1).setCell ⟨R, 2, none⟩ u2).cell? ⟨x, 1, none⟩ = some b ∧
    (((W.setCell ⟨R, 0, none⟩ u0).setCell ⟨R, 1, none⟩ u1).setCell ⟨R, 2, none⟩ u2).cell? ⟨x, 2, none⟩ = some c ∧ (((W.setCell ⟨R, 0, none⟩ u0).setCell ⟨R, 1, none⟩ u1).setCell ⟨R, 2, none⟩ u2).cell? ⟨y, 0, none⟩ = some d ∧
    (((W.setCell ⟨R, 0, none⟩ u0).setCell ⟨R, 1, none⟩ u1).setCell ⟨R, 2, none⟩ u2).cell? ⟨y, 1, none⟩ = some e ∧ (((W.setCell ⟨R, 0, none⟩ u0).setCell ⟨R, 1, none⟩ u1).setCell ⟨R, 2, none⟩ u2).cell? ⟨y, 2, none⟩ = some f := by
  have k : ∀ (z i : Nat), R ≠ z → (((W.setCell ⟨R, 0, none⟩ u0).setCell ⟨R, 1, none⟩ u1).setCell ⟨R, 2, none⟩ u2).cell? ⟨z, i, none⟩ = W.cell? ⟨z, i, none⟩ := fun z i hz => by
    rw [World.cell?_setCell_other _ _ _ _ (fun e => hz (by injection e)), World.cell?_setCell_other _ _ _ _ (fun e => hz (by injection e)), World.cell?_setCell_other _ _ _ _ (fun e => hz (by injection e))]
  exact ⟨(k _ _ hx).trans h.1, (k _ _ hx).trans h.2.1, (k _ _ hx).trans h.2.2.1, (k _ _ hy).trans h.2.2.2.1, (k _ _ hy).trans h.2.2.2.2.1, (k _ _ hy).trans h.2.2.2.2.2⟩

/-- The closure of reduced, called last in a statement: what is known behind it. -/
theorem close_c (w1 W : World) (R g x y : Nat) (vp vq a0 b0 c0 d0 e0 f0 : Value) (nn : Bool) (N D : Nat) (r : F × Int) (hr : r = made nn N D) (hp : Sl W vp (limbs N)) (hq : Sl W vq (limbs D)) (hD : 0 < D)
    (hg : W.cell? ⟨g, 0, none⟩ = some (.bool nn)) (hN : (limbs N).length ≤ 1000000) (hDl : (limbs D).length ≤ 1000000) (hb : Below w1.heap.size w1 W) (hR : Box w1 R #[.bool false, .slice none 0 0, .slice none 0 0] 26)
    (hs : W.cell? ⟨x, 0, none⟩ = some a0 ∧ W.cell? ⟨x, 1, none⟩ = some b0 ∧ W.cell? ⟨x, 2, none⟩ = some c0 ∧ W.cell? ⟨y, 0, none⟩ = some d0 ∧ W.cell? ⟨y, 1, none⟩ = some e0 ∧ W.cell? ⟨y, 2, none⟩ = some f0) :
    Calls Try.prog 55 #[vp, vq, .pointer (some ⟨g, 0, none⟩)] W fun e w6 => ∃ p cp q cq, e = .returned (.tuple #[.agg #[.bool r.1.neg, .slice p r.1.num.length cp, .slice q r.1.den.length cq], .int .i64 r.2]) ∧
      (w6.cell? ⟨x, 0, none⟩ = some a0 ∧ w6.cell? ⟨x, 1, none⟩ = some b0 ∧ w6.cell? ⟨x, 2, none⟩ = some c0 ∧ w6.cell? ⟨y, 0, none⟩ = some d0 ∧ w6.cell? ⟨y, 1, none⟩ = some e0 ∧ w6.cell? ⟨y, 2, none⟩ = some f0) ∧
      w6.cell? ⟨R, 0, none⟩ = some (.bool false) ∧ w6.cell? ⟨R, 1, none⟩ = some (.slice none 0 0) ∧ w6.cell? ⟨R, 2, none⟩ = some (.slice none 0 0) ∧ w6.frozen? ⟨R, 0, none⟩ = false ∧ w6.frozen? ⟨R, 1, none⟩ = false ∧ w6.frozen? ⟨R, 2, none⟩ = false ∧
      Hid (Sl w6 (.slice p r.1.num.length cp) r.1.num ∧ Sl w6 (.slice q r.1.den.length cq) r.1.den ∧ Box w6 R #[.bool false, .slice none 0 0, .slice none 0 0] 26 ∧ Below w1.heap.size w1 w6) := by
  subst hr
  refine (reduced1_c W vp vq N D g nn hp hq hD hg hN hDl).mono ?_
  rintro e w6 ⟨v6, rfl, hv6, hb6⟩
  obtain ⟨va6, vb6, rfl, h61, h62⟩ := hv6
  obtain ⟨p, cp, rfl, _⟩ := h61.shape
  obtain ⟨q, cq, rfl, _⟩ := h62.shape
  have hbb := hb.trans (hb6.mono hb.size)
  have bx := hR.after hbb
  obtain ⟨r0, r1, r2⟩ := bx.cells3
  exact ⟨p, cp, q, cq, rfl, ⟨keep_cell hb6 hs.1, keep_cell hb6 hs.2.1, keep_cell hb6 hs.2.2.1, keep_cell hb6 hs.2.2.2.1, keep_cell hb6 hs.2.2.2.2.1, keep_cell hb6 hs.2.2.2.2.2⟩, r0, r1, r2, bx.frozen 0, bx.frozen 1, bx.frozen 2, ⟨h61, h62, bx, hbb⟩⟩

/-- Six cells kept over a call. -/
theorem keep6 {W w1 : World} {x y : Nat} {a b c d e f : Value} (hb : Below W.drew.heap.size W.drew w1) (h0 : W.cell? ⟨x, 0, none⟩ = some a) (h1 : W.cell? ⟨x, 1, none⟩ = some b) (h2 : W.cell? ⟨x, 2, none⟩ = some c)
    (h3 : W.cell? ⟨y, 0, none⟩ = some d) (h4 : W.cell? ⟨y, 1, none⟩ = some e) (h5 : W.cell? ⟨y, 2, none⟩ = some f) :
    w1.cell? ⟨x, 0, none⟩ = some a ∧ w1.cell? ⟨x, 1, none⟩ = some b ∧ w1.cell? ⟨x, 2, none⟩ = some c ∧ w1.cell? ⟨y, 0, none⟩ = some d ∧ w1.cell? ⟨y, 1, none⟩ = some e ∧ w1.cell? ⟨y, 2, none⟩ = some f :=
  ⟨keep_cell (below_of_drew hb) h0, keep_cell (below_of_drew hb) h1, keep_cell (below_of_drew hb) h2, keep_cell (below_of_drew hb) h3, keep_cell (below_of_drew hb) h4, keep_cell (below_of_drew hb) h5⟩
theorem keep6' {W w1 : World} {x y : Nat} {a b c d e f : Value} (hb : Below W.heap.size W w1)
    (h : W.cell? ⟨x, 0, none⟩ = some a ∧ W.cell? ⟨x, 1, none⟩ = some b ∧ W.cell? ⟨x, 2, none⟩ = some c ∧ W.cell? ⟨y, 0, none⟩ = some d ∧ W.cell? ⟨y, 1, none⟩ = some e ∧ W.cell? ⟨y, 2, none⟩ = some f) :
    w1.cell? ⟨x, 0, none⟩ = some a ∧ w1.cell? ⟨x, 1, none⟩ = some b ∧ w1.cell? ⟨x, 2, none⟩ = some c ∧ w1.cell? ⟨y, 0, none⟩ = some d ∧ w1.cell? ⟨y, 1, none⟩ = some e ∧ w1.cell? ⟨y, 2, none⟩ = some f :=
  ⟨keep_cell hb h.1, keep_cell hb h.2.1, keep_cell hb h.2.2.1, keep_cell hb h.2.2.2.1, keep_cell hb h.2.2.2.2.1, keep_cell hb h.2.2.2.2.2⟩

set_option maxRecDepth 100000 in
set_option maxHeartbeats 1000000 in
theorem Add_c (w : World) (v u : Value) (x y : F) (h : IsF w v x) (k : IsF w u y) : Calls Try.prog 22 #[v, u] w (RetF w (opF sumN x y)) := by
  have HX := h
  have HY := k
  obtain ⟨va, vb, rfl, _, _⟩ := h
  obtain ⟨vc, vd, rfl, _, _⟩ := k
  obtain ⟨W0, hW, bx, by', br, hsz, hb0⟩ := start3 w #[.bool x.neg, va, vb] #[.bool y.neg, vc, vd] #[.bool false, .slice none 0 0, .slice none 0 0] 26
  obtain ⟨c0, c1, c2⟩ := bx.cells3
  obtain ⟨d0, d1, d2⟩ := by'.cells3
  have H1 := Lib.hid (HX.after hb0)
  have H2 := Lib.hid (HY.after hb0)
  have HB0 := Lib.hid hb0
  have BX := Lib.hid bx
  have BY := Lib.hid by'
  have BR := Lib.hid br
  clear HX HY bx by' br hb0
  by_cases hv : ValidF x ∧ ValidF y
  · have hv' := Lib.hid hv
    clear hv
    go_enter Try.func22, Try.ntmps22
    go_upto_region 1 with fail
    rw [← hW]
    clear hW
    go_wp2_with fail
    refine (both_c _ _ _ _ _ H1.out H2.out).mono ?_
    intro e w1 hr
    obtain ⟨rfl, hb1⟩ := hr.yes hv'.out
    obtain ⟨c0', c1', c2'⟩ := (BX.out.after hb1).cells3
    obtain ⟨d0', d1', d2'⟩ := (BY.out.after hb1).cells3
    have K1 := Lib.hid (H1.out.after hb1)
    have K2 := Lib.hid (H2.out.after hb1)
    have KW := Lib.hid hb1
    clear hr hb1 c0 c1 c2 d0 d1 d2 H1 H2
    go_wp2_with fail
    have ex := hv'.out.1
    have ey := hv'.out.2
    have K1' := K1.out
    have K2' := K2.out
    rw [ex.eq] at K1'
    rw [ey.eq] at K2'
    have ok1 := ex.2.2
    have ok2 := ey.2.2
    refine (sum_c w1 _ _ x.neg y.neg (val x.num) (val x.den) (val y.num) (val y.den) (by simpa only [fr] using K1') (by simpa only [fr] using K2') ok1.pos ok2.pos (by have := ok1.n32; omega) (by have := ok1.d32; omega) (by have := ok2.n32; omega) (by have := ok2.d32; omega)).mono ?_
    rw [← opF_yes (g := sumN) hv'.out]
    rintro e w5 ⟨v5, rfl, hv5, hb5⟩
    obtain ⟨va5, vb5, rfl, h51, h52⟩ := hv5
    have hbb := KW.out.trans (hb5.mono KW.out.size)
    have bx5 := BR.out.after hbb
    obtain ⟨p, cp, rfl, hp1, hp2⟩ := h51.shape
    obtain ⟨q, cq, rfl, hq1, hq2⟩ := h52.shape
    obtain ⟨r0, r1, r2⟩ := bx5.cells3
    have f0 := bx5.frozen 0
    have f1 := bx5.frozen 1
    have f2 := bx5.frozen 2
    have bw5 := HB0.out.trans (hbb.mono HB0.out.size)
    generalize hof2 : opF sumN x y = o at *
    obtain ⟨⟨neg, A, B⟩, er⟩ := o
    have HVA := Lib.hid h51
    have HVB := Lib.hid h52
    have BX5 := Lib.hid bx5
    have BW5 := Lib.hid bw5
    clear h51 h52 bx5 bw5 hb5 hof2 hbb ex ey K1' K2' ok1 ok2
    simp only at HVA HVB
    go_wp2_with fail
    refine bodyPost_ret (v := .tuple #[.agg #[.bool neg, .slice p A.length cp, .slice q B.length cq], .int .i64 er]) (by simp [results, Try.results22, go_sem, r0, r1, r2]) rfl ?_
    exact ⟨_, rfl, IsF.result BX5.out (fun _ h => by cases h) (fun _ h => by cases h) HVA.out HVB.out, ((BW5.out.setCell (p := ⟨w.heap.size + 2, 0, none⟩) (by simp) _).setCell (p := ⟨w.heap.size + 2, 1, none⟩) (by simp) _).setCell (p := ⟨w.heap.size + 2, 2, none⟩) (by simp) _⟩
  · have hv' := Lib.hid hv
    clear hv
    go_enter Try.func22, Try.ntmps22
    go_upto_region 1 with fail
    rw [← hW]
    clear hW
    go_wp2_with fail
    refine (both_c _ _ _ _ _ H1.out H2.out).mono ?_
    intro e w1 hr
    obtain ⟨rfl, hb1⟩ := hr.no hv'.out
    have bx5 := BR.out.after hb1
    obtain ⟨r0, r1, r2⟩ := bx5.cells3
    have f0 := bx5.frozen 0
    have f1 := bx5.frozen 1
    have f2 := bx5.frozen 2
    have BW5 := Lib.hid (HB0.out.trans (hb1.mono HB0.out.size))
    clear hr hb1 c0 c1 c2 d0 d1 d2 H1 H2 bx5
    go_wp2_with fail
    refine bodyPost_ret (v := .tuple #[.agg #[.bool false, .slice none 0 0, .slice none 0 0], .int .i64 1]) (by simp [results, Try.results22, go_sem, r0, r1, r2]) rfl ?_
    rw [opF_no (g := sumN) hv'.out]
    exact ⟨_, rfl, IsF.zero _, ((BW5.out.setCell (p := ⟨w.heap.size + 2, 0, none⟩) (by simp) _).setCell (p := ⟨w.heap.size + 2, 1, none⟩) (by simp) _).setCell (p := ⟨w.heap.size + 2, 2, none⟩) (by simp) _⟩
end Go.Proofs.Ytebmegodeglobaa
