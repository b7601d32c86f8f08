/- Walks of package canary: Allowed.
   The examples that every statement on rollouts looks at come out: the walk of works().
   Walks of the reference: order, Cmp; sum, Add, Mul.
   Walks of the reference's canary: Valid, goesOn.
   Walks of the reference's canary: Next.
   The statements on rollouts, what they share: variables of rollouts and decisions behind stores; an argument's row of bools cut. -/
import Derived.Test.YtebmegodeglobaaK19
import Derived.Test.YtebmegodeglobaaK17
import Derived.Test.YtebmegodeglobaaK21
import Derived.OwnWalkIn
import Derived.Test.YtebmegodeglobaaK24
import Derived.Test.YtebmegodeglobaaK25
import Derived.Test.YtebmegodeglobaaK08
import Derived.Test.YtebmegodeglobaaK16
import Derived.Test.YtebmegodeglobaaK18
import Derived.Test.YtebmegodeglobaaK20
set_option linter.unusedVariables false
namespace Go.Proofs.Ytebmegodeglobaa
open Go.RowKit Go.Shelf
attribute [local go_sem] Oper.semAt_some wide_fn

/-- The result is a row of ints and an error. -/
def RetL (w : World) (r : List Int × Int) (e : Ending) (w' : World) : Prop := ∃ v, e = .returned (.tuple #[v, .int .i64 r.2]) ∧ SlI w' v r.1 ∧ Below w.heap.size w w'
theorem allowed_in {R : Ro} (h : ValidR R) (r : Nat) : ∀ z ∈ allowedL R r, In64 z := by
  intro z hz
  unfold allowedL at hz
  obtain ⟨j, _, rfl⟩ := List.mem_map.1 hz
  have h1 := cum_le h (j + 1)
  have h2 := h.2.1
  have h3 := (goB_mOf h (n := cum R (j + 1)) (by omega)).1
  unfold In64
  omega

set_option maxRecDepth 100000 in
set_option maxHeartbeats 4000000 in
theorem Allowed_c (w : World) (v : Value) (R : Ro) (h : IsR w v R) : Calls Try.prog 9 #[v] w (RetL w (allowedF R)) := by
  have HX := h
  obtain ⟨p0, p1, p2, p3, p4, p5, k0, k1, k2, k3, k4, k5, rfl, _, _, _, _⟩ := h.open
  obtain ⟨W0, hW, bP, hb0⟩ : ∃ W0, W0 = w.alloc (.cells #[.slice p0 R.hosts.length k0, .slice p1 R.waves.length k1, .bool R.rate.neg, .slice p2 R.rate.num.length k2, .slice p3 R.rate.den.length k3, .bool R.bound.neg, .slice p4 R.bound.num.length k4, .slice p5 R.bound.den.length k5] 28) ∧
      Box W0 w.heap.size #[.slice p0 R.hosts.length k0, .slice p1 R.waves.length k1, .bool R.rate.neg, .slice p2 R.rate.num.length k2, .slice p3 R.rate.den.length k3, .bool R.bound.neg, .slice p4 R.bound.num.length k4, .slice p5 R.bound.den.length k5] 28 ∧ Below w.heap.size w W0 :=
    ⟨_, rfl, Box.new w _ _, held_alloc (Below.refl _ w)⟩
  obtain ⟨c0, c1, c2, c3, c4, c5, c6, c7⟩ := bP.cells8
  have HP := Lib.hid (HX.after hb0)
  have HB0 := Lib.hid hb0
  have BP := Lib.hid bP
  clear HX h bP hb0
  by_cases hv : ValidR R
  · have HV := Lib.hid hv
    have h16 : R.hosts.length ≤ 16 := hv.2.1
    have hw16 := waves_le hv
    have hfin : Hid (allowedF R = (allowedL R R.waves.length, 0)) := by show _ = _; unfold allowedF; rw [if_pos hv]
    clear hv
    refine callsIn_wide (n := 6).1 (callsIn_of_wp_marks Try.func9 rfl trivial (wpIn_wide.2 ?_) rfl)
    simp only [Try.ntmps9, List.size_toArray, List.length_cons, List.length_nil, Nat.reduceAdd, Nat.reduceSub, Array.replicate_succ, Array.replicate_zero, List.push_toArray, List.append_toArray, List.nil_append, List.cons_append]
    go_upto_region 1 with fail
    rw [← hW]
    clear hW
    go_wp2_with fail
    refine (cValid_c _ _ R HP.out).mono ?_
    intro e w1 hr
    obtain ⟨rfl, hb1⟩ := hr.yes HV.out
    have HP1 := Lib.hid (HP.out.after hb1)
    have BP1 := Lib.hid (BP.out.after hb1)
    have HB1 := Lib.hid (HB0.out.trans (hb1.mono HB0.out.size))
    clear hr hb1 HP BP HB0 c0 c1 c2 c3 c4 c5 c6 c7
    go_upto_region 4 with fail
    obtain ⟨w2, hw2⟩ : ∃ w2, w2 = w1.alloc (.cells #[.slice none 0 0] 22) := ⟨_, rfl⟩
    have hb2 : Below w1.heap.size w1 w2 := hw2 ▸ held_alloc (Below.refl _ w1)
    have bo : Box w2 w1.heap.size #[.slice none 0 0] 22 := hw2 ▸ Box.new w1 _ _
    have BO := Lib.hid bo
    have hlo := bo.lt
    obtain ⟨c0, c1, c2, c3, c4, c5, c6, c7⟩ := (BP1.out.after hb2).cells8
    have HP2 := Lib.hid (HP1.out.after hb2)
    have HB2 := Lib.hid (HB1.out.trans (hb2.mono HB1.out.size))
    have hs1 := HB1.out.size
    rw [← hw2]
    clear hw2 hb2 bo HP1 BP1 HB1
    go_wp2_with fail
    refine (bounds_t _ p0 p1 p2 p3 p4 p5 R.hosts.length R.waves.length R.rate.num.length R.rate.den.length R.bound.num.length R.bound.den.length k0 k1 k2 k3 k4 k5 R.rate.neg R.bound.neg).mono ?_
    rintro e w' ⟨rfl, rfl⟩
    obtain ⟨W1, hW1⟩ : ∃ W1, W1 = w2.alloc (.cells #[.slice p0 R.hosts.length k0, .slice p1 R.waves.length k1, .bool R.rate.neg, .slice p2 R.rate.num.length k2, .slice p3 R.rate.den.length k3, .bool R.bound.neg, .slice p4 R.bound.num.length k4, .slice p5 R.bound.den.length k5] 28) := ⟨_, rfl⟩
    have hb3 : Below w2.heap.size w2 W1 := hW1 ▸ held_alloc (Below.refl _ w2)
    have bx : Box W1 w2.heap.size (roCells R p0 p1 p2 p3 p4 p5 k0 k1 k2 k3 k4 k5) 28 := hW1 ▸ Box.new w2 _ _
    have IR : Hid (IsR W1 (.agg (roCells R p0 p1 p2 p3 p4 p5 k0 k1 k2 k3 k4 k5)) R) := HP2.out.after hb3
    have BX := Lib.hid bx
    have BO3 := Lib.hid (BO.out.after hb3)
    have HB3 := Lib.hid (HB2.out.trans (hb3.mono HB2.out.size))
    have hlt2 := bx.lt
    have hne : w2.heap.size ≠ w1.heap.size := by omega
    rw [← hW1]
    clear hW1 hb3 bx c0 c1 c2 c3 c4 c5 c6 c7 HP2 HB2 BO
    go_wp2_with fail
    refine' (wpIn_wide (n := 6)).1 (wpIn_range_inv (n := 6) rfl (by omega) (gf := 27) (lb := #[.pointer (some ⟨w2.heap.size, 0, none⟩)]) rfl trivial (enters_of Try.func27 (by kernel_rfl) rfl) R.waves.length (fun r W => OutI W1 w1.heap.size r (allowedL R r) W) (BndV R) (fun _ _ => False)
      (by rintro r args W ⟨m, a, c, rfl, _⟩; rfl) (fun r W h => by obtain ⟨_, _, _, _, _, hg⟩ := h; exact hg.size) (fun r W W' h hb => h.after hb) (fun r W W' l hl h hs hg => h.soft hs hl hg) ⟨none, 0, 0, BO3.out, ⟨rfl, .inl ⟨rfl, rfl⟩⟩, World.grownBy.refl _ _⟩
      (fun l W2 J' Y hJJ hJb hJ0 hYY => callsIn_wide.2 (bounds1_t l (6 - 1 - 1) W2 w2.heap.size R p0 p1 p2 p3 p4 p5 k0 k1 k2 k3 k4 k5 HV.out J' Y (fun r W h => by
        obtain ⟨_, _, _, _, _, hg⟩ := hJJ r W h
        exact ⟨BX.out.grown' hg (by intro e; injection e with e; exact hne e), IR.out.grownBox BO3.out (by decide) hg⟩) hJb hJ0 hYY))
      (AsB R _) ?hA ?assign ?body ?done ?stop)
    case hA =>
      rintro r args a1 W wA ⟨m, a, c, _, rfl, _⟩
      exact held_alloc (Below.refl _ W)
    case assign =>
      intro l r args W K hr hj hv hK
      obtain ⟨m, a, c, rfl, hm⟩ := hv
      have HM := Lib.hid hm
      clear hm hj
      gi_wp2
      exact AsB.mk HM.out
    case body =>
      rintro l r args W wA w3 a1 hr hj hv ⟨m, a, c', ⟨hm, hg, hsl⟩, rfl, rfl⟩ hj2 hsf hlW hgr
      obtain ⟨v0, v1, v2⟩ := ((Box.new W #[.int .i64 ((cum R (r + 1) : Nat) : Int), .int .i64 ((m : Int) - 1), .slice a (hostsOf R (cum R r) (cum R (r + 1))).length c'] 57).soft hsf hgr).cells3
      obtain ⟨po, no, co, bo3, hown, hgO⟩ := hj2
      have s4 := cum_le HV.out (r + 1)
      have o0 : w3.cell? ⟨w1.heap.size, 0, none⟩ = some (.slice po no co) := bo3.cell 0
      have HM : Hid (mOf R (cum R (r + 1)) = m) := mOf_eq hm hg
      have hmin : min ((m : Int) - 1) ((cum R (r + 1) : Nat) : Int) = (m : Int) - 1 := by omega
      have HOWN := Lib.hid hown
      have BO4 := Lib.hid bo3
      have HGO := Lib.hid hgO
      have hsz := hgO.size
      have hlt4 := bo3.lt
      obtain ⟨i0, hi, hz0, hz1, hz2⟩ := info_parts infoInt
      have hlm : maxLen = 9223372036854775807 := rfl
      have HLM := Lib.hid hlm
      clear hj hv hown bo3 hgO hsf hgr hg hsl hlm
      gi_wp2_with (gi_at_builtin; refine wpListIn_append_own _ rfl _ _ 22 rfl W1.heap.size 3 i0 (.int .i64 0) 1 8 Try.underlying22 hi hz0 hz1 hz2 rfl (by decide) _ _ _ rfl (HOWN.out.alloc _) ⟨w3.heap.size, 0, none⟩ 1 1 [.int .i64 ((m : Int) - 1)] rfl rfl cell_one (by intro u hu; simp at hu; subst hu; rfl) ?c4 ?c5 ?c6 ?_)
      case c4 => rw [HLM.out]; omega
      case c5 => omega
      case c6 => simp; omega
      intro v' w5 hown' hgrow _
      obtain ⟨b5, hout, hkeep⟩ := OutI.push (by omega) BO4.out HOWN.out HGO.out hown' hgrow
      have x0 : w5.cell? ⟨w1.heap.size, 0, none⟩ = some (.slice po no co) := b5.cell 0
      have x1 := b5.frozen 0
      obtain ⟨p', c6', rfl⟩ := ownsRow_shape hown'
      have HOUT : Hid (OutI W1 w1.heap.size (r + 1) (allowedL R (r + 1)) (w5.setCell ⟨w1.heap.size, 0, none⟩ (.slice p' (r + 1) c6'))) := by
        show OutI _ _ _ _ _
        rw [allowedL_succ, HM.out]; exact hout
      have HKEEP := Lib.hid hkeep
      clear hown' hgrow b5 hout hkeep o0 v0 v1 v2
      gi_wp2
      exact ⟨HOUT.out, HKEEP.out⟩
    case done =>
      intro W hj hK
      obtain ⟨po, no, co, bo3, hown, hgO⟩ := hj
      have o0 : W.cell? ⟨w1.heap.size, 0, none⟩ = some (.slice po no co) := bo3.cell 0
      have HBW := Lib.hid (HB3.out.grown hgO HB3.out.size (fun g e => by injection e with e; omega))
      have HRES : Hid (SlI W (.slice po no co) (allowedL R R.waves.length)) := ⟨allowed_in HV.out _, (SlV.of_own hown).1⟩
      have HK := Lib.hid hK
      clear bo3 hown hgO hK
      go_wp2_with fail
      refine ⟨by simp, .inl ⟨_, _, rfl, run_takeDeferred HK.out, ?_⟩⟩
      refine ⟨.tuple #[.slice po no co, .int .i64 0], by simp [results, Try.results9, go_sem], ?_⟩
      rw [hfin.out]
      exact ⟨_, rfl, HRES.out.soft (.inr ⟨_, HK.out⟩) (putObj_grown2 W W1.heap.size (.deferred none)), HBW.out.grown (putObj_grown2 W W1.heap.size (.deferred none)) HBW.out.size (fun g e => by injection e with e; have := HB3.out.size; omega)⟩
    case stop =>
      rintro l r W3 W hr hx
      exact hx.elim
  · have hfin : Hid (allowedF R = ([], 1)) := by show _ = _; unfold allowedF; rw [if_neg hv]
    have HV := Lib.hid hv
    clear hv
    go_enter Try.func9, Try.ntmps9
    go_upto_region 1 with fail
    rw [← hW]
    clear hW
    go_wp2_with fail
    refine (cValid_c _ _ R HP.out).mono ?_
    intro e w1 hr
    obtain ⟨rfl, hb1⟩ := hr.no HV.out
    have HB1 := Lib.hid (HB0.out.trans (hb1.mono HB0.out.size))
    clear hr hb1 c0 c1 c2 c3 c4 c5 c6 c7
    go_wp2_with fail
    go_ret2
    rw [hfin.out]
    exact ⟨_, rfl, SlI.nil _, HB1.out⟩
end Go.Proofs.Ytebmegodeglobaa

namespace Go.Proofs.Ytebmegodeglobaa
open Go.RowKit Go.Shelf

/-- Block b is the variable of a decision. -/
def VarD (w : World) (b : Nat) (d : Dec) : Prop := ∃ p c, Box w b #[.int .u8 (d.kind : Int), .slice p d.hosts.length c] 36 ∧ SlI w (.slice p d.hosts.length c) d.hosts
theorem VarD.after {w w' : World} {b : Nat} {d : Dec} (h : VarD w b d) (hb : Below w.heap.size w w') : VarD w' b d := by
  obtain ⟨p, c, h1, h2⟩ := h
  exact ⟨p, c, h1.after hb, h2.after hb⟩
theorem VarR.make {w : World} {R : Ro} {p0 p1 p2 p3 p4 p5 : Option Addr} {k0 k1 k2 k3 k4 k5 : Nat} (h : IsR w (.agg #[.slice p0 R.hosts.length k0, .slice p1 R.waves.length k1, .bool R.rate.neg, .slice p2 R.rate.num.length k2, .slice p3 R.rate.den.length k3, .bool R.bound.neg, .slice p4 R.bound.num.length k4, .slice p5 R.bound.den.length k5]) R) :
    VarR (w.alloc (.cells #[.slice p0 R.hosts.length k0, .slice p1 R.waves.length k1, .bool R.rate.neg, .slice p2 R.rate.num.length k2, .slice p3 R.rate.den.length k3, .bool R.bound.neg, .slice p4 R.bound.num.length k4, .slice p5 R.bound.den.length k5] 28)) w.heap.size R :=
  ⟨p0, p1, p2, p3, p4, p5, k0, k1, k2, k3, k4, k5, Box.new w _ _, h.after (held_alloc (Below.refl _ w))⟩
theorem VarD.make {w : World} {d : Dec} {p : Option Addr} {c : Nat} (h : SlI w (.slice p d.hosts.length c) d.hosts) : VarD (w.alloc (.cells #[.int .u8 (d.kind : Int), .slice p d.hosts.length c] 36)) w.heap.size d :=
  ⟨p, c, Box.new w _ _, h.alloc _⟩

theorem VarF.putH {w : World} {R : Nat} {va vb : Value} {x : F} {n0 : Bool} (hR : Box w R #[.bool n0, .slice none 0 0, .slice none 0 0] 26) (h : IsF w (.agg #[.bool x.neg, va, vb]) x) :
    VarF (((w.setCell ⟨R, 0, none⟩ (.bool x.neg)).setCell ⟨R, 1, none⟩ va).setCell ⟨R, 2, none⟩ vb) R x := by
  obtain ⟨_, h1, h2⟩ := (h.set3 hR (fun _ h => by cases h) (fun _ h => by cases h) (fun _ h => by cases h) (.bool x.neg) va vb).parts
  exact ⟨va, vb, end_box hR, h1, h2⟩
theorem VarF.newH {w : World} {va vb : Value} {x : F} (h : IsF w (.agg #[.bool x.neg, va, vb]) x) : VarF (w.alloc (.cells #[.bool x.neg, va, vb] 26)) w.heap.size x := by
  obtain ⟨_, h1, h2⟩ := (h.alloc (.cells #[.bool x.neg, va, vb] 26)).parts
  exact ⟨va, vb, Box.new w _ _, h1, h2⟩
theorem Below.putH {w w2 : World} {R : Nat} {y0 y1 y2 : Value} (h : Below w.heap.size w w2) (hle : w.heap.size ≤ R) : Below w.heap.size w (((w2.setCell ⟨R, 0, none⟩ y0).setCell ⟨R, 1, none⟩ y1).setCell ⟨R, 2, none⟩ y2) :=
  ((h.setCell (p := ⟨R, 0, none⟩) hle y0).setCell (p := ⟨R, 1, none⟩) hle y1).setCell (p := ⟨R, 2, none⟩) hle y2

set_option maxRecDepth 100000 in
set_option maxHeartbeats 4000000 in
theorem works32_c (w : World) : Calls Try.prog 14 #[] w fun e w' => e = .returned (.bool true) ∧ Below w.heap.size w w' := by
  obtain ⟨R, hR⟩ : ∃ R, R0 = R := ⟨_, rfl⟩
  have HS := Lib.hid (fun w => hR ▸ sample_c w : ∀ w, Calls Try.prog 4 #[] w (RetR w R))
  have HN1 : Hid (nextF R [true] = (⟨1, [2, 7]⟩, 0)) := hR ▸ next1_R0
  have HN3 : Hid (nextF R [true, true, true] = (⟨2, []⟩, 0)) := hR ▸ next3_R0
  have HRN : Hid (runF R [false, false, false, false, false] = ([⟨1, [4]⟩, ⟨1, [2, 7]⟩, ⟨1, [1, 0]⟩, ⟨3, []⟩], 0)) := hR ▸ run_R0
  have HAL : Hid (allowedF R = ([1, 2, 3], 0)) := hR ▸ allowed_R0
  have HCH : Hid (chanceF R (fr false 1 2) = (fr false 7 32, 0)) := hR ▸ chance_R0
  have HV : Hid (ValidR R) := hR ▸ v_R0
  clear hR
  have HB : Hid (Below w.heap.size w w) := Below.refl _ _
  go_enter Try.func14, Try.ntmps14
  go_wp2_with fail
  refine (HS.out _).mono ?_
  rintro e w1 ⟨v1, rfl, hv1, hb1⟩
  have hop := hv1.open
  obtain ⟨p0, p1, p2, p3, p4, p5, k0, k1, k2, k3, k4, k5, rfl, _, _, _, _⟩ := hop
  have HV1 := Lib.hid hv1
  replace HB := Lib.hid (HB.out.trans (hb1.mono HB.out.size))
  clear hv1 hb1
  go_upto_region 2 with fail
  obtain ⟨W1, hW⟩ : ∃ W1, W1 = w1.alloc (.cells #[.slice p0 R.hosts.length k0, .slice p1 R.waves.length k1, .bool R.rate.neg, .slice p2 R.rate.num.length k2, .slice p3 R.rate.den.length k3, .bool R.bound.neg, .slice p4 R.bound.num.length k4, .slice p5 R.bound.den.length k5] 28) := ⟨_, rfl⟩
  have br : Box W1 w1.heap.size #[.slice p0 R.hosts.length k0, .slice p1 R.waves.length k1, .bool R.rate.neg, .slice p2 R.rate.num.length k2, .slice p3 R.rate.den.length k3, .bool R.bound.neg, .slice p4 R.bound.num.length k4, .slice p5 R.bound.den.length k5] 28 := hW ▸ Box.new w1 _ _
  have hb : Below w1.heap.size w1 W1 := hW ▸ held_alloc (Below.refl _ w1)
  have HR := Lib.hid (HV1.out.after hb)
  have BR := Lib.hid br
  replace HB := Lib.hid (HB.out.trans (hb.mono HB.out.size))
  rw [← hW]
  clear hW br hb HV1
  -- the first list
  obtain ⟨c0, c1, c2, c3, c4, c5, c6, c7⟩ := BR.out.cells8
  have hlt := BR.out.lt
  go_wp2_with fail
  obtain ⟨W2, hW⟩ : ∃ W2, W2 = W1.alloc (.cells #[.bool true] 4) := ⟨_, rfl⟩
  have bl : Box W2 W1.heap.size #[.bool true] 4 := hW ▸ Box.new W1 _ _
  have hb : Below W1.heap.size W1 W2 := hW ▸ held_alloc (Below.refl _ W1)
  rw [← hW]
  clear hW c0 c1 c2 c3 c4 c5 c6 c7
  refine (Next_c _ _ _ R [true] (HR.out.after hb) (SlB.lit (l := [true]) bl rfl (by decide))).mono ?_
  rw [HN1.out]
  rintro e w3 ⟨v3, rfl, hv3, hb3⟩
  obtain ⟨a3, e3, rfl⟩ := hv3.shape
  have hb13 := hb.trans (hb3.mono hb.size)
  replace HR := Lib.hid (HR.out.after hb13)
  replace BR := Lib.hid (BR.out.after hb13)
  replace HB := Lib.hid (HB.out.trans (hb13.mono HB.out.size))
  have H3 := Lib.hid hv3.1
  clear hb bl hb3 hb13 hv3
  go_upto_region 3 with fail
  obtain ⟨W4, hW⟩ : ∃ W4, W4 = w3.alloc (.cells #[.int .u8 1, .slice a3 2 e3] 36) := ⟨_, rfl⟩
  have bA : Box W4 w3.heap.size #[.int .u8 1, .slice a3 2 e3] 36 := hW ▸ Box.new w3 _ _
  have hb : Below w3.heap.size w3 W4 := hW ▸ held_alloc (Below.refl _ w3)
  have DA : Hid (IsD W4 (.agg #[.int .u8 1, .slice a3 2 e3]) ⟨1, [2, 7]⟩) := ⟨_, rfl, H3.out.after hb⟩
  have BA := Lib.hid bA
  replace HR := Lib.hid (HR.out.after hb)
  replace BR := Lib.hid (BR.out.after hb)
  replace HB := Lib.hid (HB.out.trans (hb.mono HB.out.size))
  rw [← hW]
  clear hW bA H3
  clear hb
  obtain ⟨c0, c1, c2, c3, c4, c5, c6, c7⟩ := BR.out.cells8
  have hlt := BR.out.lt
  go_wp2_with fail
  obtain ⟨W5, hW⟩ : ∃ W5, W5 = W4.alloc (.cells #[.bool true, .bool true, .bool true] 4) := ⟨_, rfl⟩
  have bl : Box W5 W4.heap.size #[.bool true, .bool true, .bool true] 4 := hW ▸ Box.new W4 _ _
  have hb : Below W4.heap.size W4 W5 := hW ▸ held_alloc (Below.refl _ W4)
  rw [← hW]
  clear hW c0 c1 c2 c3 c4 c5 c6 c7
  refine (Next_c _ _ _ R [true, true, true] (HR.out.after hb) (SlB.lit (l := [true, true, true]) bl rfl (by decide))).mono ?_
  rw [HN3.out]
  rintro e w6 ⟨v6, rfl, hv6, hb6⟩
  obtain ⟨a6, e6, rfl⟩ := hv6.shape
  have hb46 := hb.trans (hb6.mono hb.size)
  replace HR := Lib.hid (HR.out.after hb46)
  replace BR := Lib.hid (BR.out.after hb46)
  replace HB := Lib.hid (HB.out.trans (hb46.mono HB.out.size))
  replace DA := Lib.hid (DA.out.after hb46)
  replace BA := Lib.hid (BA.out.after hb46)
  have H6 := Lib.hid hv6.1
  clear hb bl hb6 hb46 hv6
  go_upto_region 4 with fail
  obtain ⟨W7, hW⟩ : ∃ W7, W7 = w6.alloc (.cells #[.int .u8 2, .slice a6 0 e6] 36) := ⟨_, rfl⟩
  have bC : Box W7 w6.heap.size #[.int .u8 2, .slice a6 0 e6] 36 := hW ▸ Box.new w6 _ _
  have hb : Below w6.heap.size w6 W7 := hW ▸ held_alloc (Below.refl _ w6)
  have DC : Hid (IsD W7 (.agg #[.int .u8 2, .slice a6 0 e6]) ⟨2, []⟩) := ⟨_, rfl, H6.out.after hb⟩
  have BC := Lib.hid bC
  replace HR := Lib.hid (HR.out.after hb)
  replace BR := Lib.hid (BR.out.after hb)
  replace HB := Lib.hid (HB.out.trans (hb.mono HB.out.size))
  rw [← hW]
  clear hW bC H6
  replace DA := Lib.hid (DA.out.after hb)
  replace BA := Lib.hid (BA.out.after hb)
  clear hb
  obtain ⟨c0, c1, c2, c3, c4, c5, c6, c7⟩ := BR.out.cells8
  go_wp2_with fail
  refine (cValid_c _ _ R HR.out).mono ?_
  intro e w8 hr
  obtain ⟨rfl, hb⟩ := hr.yes HV.out
  replace HR := Lib.hid (HR.out.after hb)
  replace BR := Lib.hid (BR.out.after hb)
  replace HB := Lib.hid (HB.out.trans (hb.mono HB.out.size))
  replace DA := Lib.hid (DA.out.after hb)
  replace BA := Lib.hid (BA.out.after hb)
  replace DC := Lib.hid (DC.out.after hb)
  replace BC := Lib.hid (BC.out.after hb)
  clear hb hr c0 c1 c2 c3 c4 c5 c6 c7
  obtain ⟨d0, d1⟩ := BA.out.cells2'
  go_wp2_with fail
  obtain ⟨W9, hW⟩ : ∃ W9, W9 = w8.alloc (.cells #[.int .i64 2, .int .i64 7] 3) := ⟨_, rfl⟩
  have bl : Box W9 w8.heap.size #[.int .i64 2, .int .i64 7] 3 := hW ▸ Box.new w8 _ _
  have hb : Below w8.heap.size w8 W9 := hW ▸ held_alloc (Below.refl _ w8)
  have HLI : SlI W9 (.slice (some ⟨w8.heap.size, 0, none⟩) 2 2) [2, 7] := SlI.lit (l := [2, 7]) bl rfl (by unfold In64; decide) (by decide)
  rw [← hW]
  clear hW bl d0 d1
  refine (same32_c _ _ _ ⟨1, [2, 7]⟩ ⟨1, [2, 7]⟩ (DA.out.after hb) ⟨_, rfl, HLI⟩).mono ?_
  intro e w10 hr
  obtain ⟨rfl, hb10⟩ := hr.yes rfl
  have hb := hb.trans (hb10.mono hb.size)
  replace HR := Lib.hid (HR.out.after hb)
  replace BR := Lib.hid (BR.out.after hb)
  replace HB := Lib.hid (HB.out.trans (hb.mono HB.out.size))
  replace DC := Lib.hid (DC.out.after hb)
  replace BC := Lib.hid (BC.out.after hb)
  clear hb hb10 hr HLI DA BA
  obtain ⟨d0, d1⟩ := BC.out.cells2'
  go_wp2_with fail
  refine (same32_c _ _ _ ⟨2, []⟩ ⟨2, []⟩ DC.out ⟨_, rfl, SlI.nil _⟩).mono ?_
  intro e w11 hr
  obtain ⟨rfl, hb⟩ := hr.yes rfl
  replace HR := Lib.hid (HR.out.after hb)
  replace BR := Lib.hid (BR.out.after hb)
  replace HB := Lib.hid (HB.out.trans (hb.mono HB.out.size))
  clear hb hr DC BC d0 d1
  go_upto_region 6 with fail
  have hmk5 : ∀ W : World, (Instr.makeSlice 32 (.int .i64 5) (.int .i64 5)).run Try.prog W = .ok (.slice (some ⟨W.heap.size, 0, none⟩) 5 5) (W.alloc (.cells #[.bool false, .bool false, .bool false, .bool false, .bool false] 4)) := by
    intro W
    have h := run_make_row' (P := Try.prog) 32 4 (.bool false) 1 Try.underlying32 (by kernel_rfl) rfl .i64 .i64 5 (by omega) (by omega) W
    rw [show madeCells #[Value.bool false] 5 = #[.bool false, .bool false, .bool false, .bool false, .bool false] from by kernel_rfl] at h
    exact h
  have mkS : Hid (∀ w', Below w11.heap.size w11 w' → w'.cell? ⟨w1.heap.size, 0, none⟩ = some (.slice p0 R.hosts.length k0) ∧ w'.cell? ⟨w1.heap.size, 1, none⟩ = some (.slice p1 R.waves.length k1) ∧ w'.cell? ⟨w1.heap.size, 2, none⟩ = some (.bool R.rate.neg) ∧ w'.cell? ⟨w1.heap.size, 3, none⟩ = some (.slice p2 R.rate.num.length k2) ∧ w'.cell? ⟨w1.heap.size, 4, none⟩ = some (.slice p3 R.rate.den.length k3) ∧ w'.cell? ⟨w1.heap.size, 5, none⟩ = some (.bool R.bound.neg) ∧ w'.cell? ⟨w1.heap.size, 6, none⟩ = some (.slice p4 R.bound.num.length k4) ∧ w'.cell? ⟨w1.heap.size, 7, none⟩ = some (.slice p5 R.bound.den.length k5)) := fun w' hb => (BR.out.after hb).cells8
  have hltR := BR.out.lt
  go_region_held3 (fun w' => w'.cell? ⟨w1.heap.size, 0, none⟩ = some (.slice p0 R.hosts.length k0) ∧ w'.cell? ⟨w1.heap.size, 1, none⟩ = some (.slice p1 R.waves.length k1) ∧ w'.cell? ⟨w1.heap.size, 2, none⟩ = some (.bool R.rate.neg) ∧ w'.cell? ⟨w1.heap.size, 3, none⟩ = some (.slice p2 R.rate.num.length k2) ∧ w'.cell? ⟨w1.heap.size, 4, none⟩ = some (.slice p3 R.rate.den.length k3) ∧ w'.cell? ⟨w1.heap.size, 5, none⟩ = some (.bool R.bound.neg) ∧ w'.cell? ⟨w1.heap.size, 6, none⟩ = some (.slice p4 R.bound.num.length k4) ∧ w'.cell? ⟨w1.heap.size, 7, none⟩ = some (.slice p5 R.bound.den.length k5))
    (first | (refine mkS.out _ ?_; (repeat (first | with_reducible exact hk1 | with_reducible exact Below.refl _ _ | with_reducible refine below_dr ?_ | with_reducible refine held_alloc ?_)); done))
    (first
     | (go_at_call 8; refine (Run_c _ _ _ R [false, false, false, false, false] ?_ ?_).mono ?_; exact (HR.out.after (below_dr (Below.refl _ w11))).after (held_alloc (Below.refl _ _)); exact SlB.lit (l := [false, false, false, false, false]) (Box.new _ _ _) rfl (by decide); rw [HRN.out]; rintro e w12 ⟨v12, rfl, hv12, hb12⟩; have hk1 : Below w11.heap.size w11 w12 := (after_new (below_of_drew hb12)).1))
  obtain ⟨al, cl, rfl, hc1, hc2, _, hcl⟩ := hv12
  obtain ⟨lb, rfl, hlb, hl4⟩ := hcl (by decide)
  obtain ⟨ul, l0, l1, l2⟩ := hl4 3 ⟨3, []⟩ rfl
  have KL := Lib.hid (show w12.cell? ⟨lb, 6, none⟩ = some (.int .u8 3) from l0)
  replace HR := Lib.hid (HR.out.after hk1)
  replace BR := Lib.hid (BR.out.after hk1)
  replace HB := Lib.hid (HB.out.trans (hk1.mono HB.out.size))
  clear hk1 mkS hl4 l0 l1 l2 hcl hmk5
  obtain ⟨c0, c1, c2, c3, c4, c5, c6, c7⟩ := BR.out.cells8
  go_wp2_with fail
  refine (Allowed_c _ _ R HR.out).mono ?_
  rw [HAL.out]
  rintro e w13 ⟨v13, rfl, hv13, hb⟩
  obtain ⟨am, cm, rfl, _, _, _⟩ := hv13.shape
  have HAS := Lib.hid hv13
  replace HR := Lib.hid (HR.out.after hb)
  replace BR := Lib.hid (BR.out.after hb)
  replace HB := Lib.hid (HB.out.trans (hb.mono HB.out.size))
  replace KL := Lib.hid (keep_cell hb KL.out)
  clear hv13 hb c0 c1 c2 c3 c4 c5 c6 c7
  go_upto_region 8 with fail
  have mkS : Hid (∀ w', Below w13.heap.size w13 w' → w'.cell? ⟨w1.heap.size, 0, none⟩ = some (.slice p0 R.hosts.length k0) ∧ w'.cell? ⟨w1.heap.size, 1, none⟩ = some (.slice p1 R.waves.length k1) ∧ w'.cell? ⟨w1.heap.size, 2, none⟩ = some (.bool R.rate.neg) ∧ w'.cell? ⟨w1.heap.size, 3, none⟩ = some (.slice p2 R.rate.num.length k2) ∧ w'.cell? ⟨w1.heap.size, 4, none⟩ = some (.slice p3 R.rate.den.length k3) ∧ w'.cell? ⟨w1.heap.size, 5, none⟩ = some (.bool R.bound.neg) ∧ w'.cell? ⟨w1.heap.size, 6, none⟩ = some (.slice p4 R.bound.num.length k4) ∧ w'.cell? ⟨w1.heap.size, 7, none⟩ = some (.slice p5 R.bound.den.length k5)) := fun w' hb => (BR.out.after hb).cells8
  have hlt13 := BR.out.lt
  go_cut [8, 9] (fun x e9 wx => ∃ B : Nat, x = .pointer (some ⟨B, 0, none⟩) ∧ e9 = .int .i64 0 ∧ w13.heap.size ≤ B ∧ Hid (VarF wx B (fr false 7 32)) ∧ Hid (Below w13.heap.size w13 wx))
  case first =>
    go_region_held3 (fun w' => w'.cell? ⟨w1.heap.size, 0, none⟩ = some (.slice p0 R.hosts.length k0) ∧ w'.cell? ⟨w1.heap.size, 1, none⟩ = some (.slice p1 R.waves.length k1) ∧ w'.cell? ⟨w1.heap.size, 2, none⟩ = some (.bool R.rate.neg) ∧ w'.cell? ⟨w1.heap.size, 3, none⟩ = some (.slice p2 R.rate.num.length k2) ∧ w'.cell? ⟨w1.heap.size, 4, none⟩ = some (.slice p3 R.rate.den.length k3) ∧ w'.cell? ⟨w1.heap.size, 5, none⟩ = some (.bool R.bound.neg) ∧ w'.cell? ⟨w1.heap.size, 6, none⟩ = some (.slice p4 R.bound.num.length k4) ∧ w'.cell? ⟨w1.heap.size, 7, none⟩ = some (.slice p5 R.bound.den.length k5))
      (first | (refine mkS.out _ ?_; (repeat (first | with_reducible exact hk2 | with_reducible exact hk1 | with_reducible exact Below.refl _ _ | with_reducible refine below_dr ?_ | with_reducible refine held_alloc ?_ | ((with_reducible refine held_set ?_ ?_); rotate_left; with_reducible exact hle))); done))
      (first
       | (go_at_call 7; refine (of32_c _ 1 2 (by omega) (by omega) (by omega) (by omega)).mono ?_; rw [w_12']; rintro e wa ⟨v, rfl, hv, hb1⟩; have CZ1 : Box wa w13.heap.size #[.bool false, .slice none 0 0, .slice none 0 0] 26 := (after_new (below_of_drew hb1)).2; have hk1 : Below w13.heap.size w13 wa := (after_new (below_of_drew hb1)).1)
       | (go_at_call 7; refine (of32_c _ 1 2 (by omega) (by omega) (by omega) (by omega)).mono ?_; rw [w_12']; rintro e wa ⟨v, rfl, hv, hb1⟩; have hk1 : Below w13.heap.size w13 wa := below_of_drew hb1)
       | (go_at_call 10; refine (Chance_c _ _ _ R (fr false 1 2) ?_ ?_).mono ?_; exact HR.out.after hk1; exact hv; rw [HCH.out]; rintro e wb ⟨v, rfl, hv2, hb2⟩; have CZ : Box wb w13.heap.size #[.bool false, .slice none 0 0, .slice none 0 0] 26 := CZ1.after hb2; have hk2 := hk1.trans (hb2.mono hk1.size); have hle : w13.heap.size ≤ w13.heap.size := Nat.le_refl _; obtain ⟨z0, z1, z2⟩ := CZ.cells3; have f0 := CZ.frozen 0; have f1 := CZ.frozen 1; have f2 := CZ.frozen 2; have zlt := CZ.lt; have hv2 : IsF _ v (fr false 7 32) := hv2; obtain ⟨va, vb, rfl, h1, h2⟩ := hv2; obtain ⟨p6, cp6, rfl, _, _⟩ := h1.shape; obtain ⟨q6, cq6, rfl, _, _⟩ := h2.shape)
       | (go_at_call 10; refine (Chance_c _ _ _ R (fr false 1 2) ?_ ?_).mono ?_; exact (HR.out.after hk1).after (held_alloc (Below.refl _ _)); exact hv.alloc _; rw [HCH.out]; rintro e wb ⟨v, rfl, hv2, hb2⟩; have CZ : Box wb wa.heap.size #[.bool false, .slice none 0 0, .slice none 0 0] 26 := (after_new hb2).2; have hk2 := hk1.trans ((after_new hb2).1.mono hk1.size); have hle := hk1.size; obtain ⟨z0, z1, z2⟩ := CZ.cells3; have f0 := CZ.frozen 0; have f1 := CZ.frozen 1; have f2 := CZ.frozen 2; have zlt := CZ.lt; have hv2 : IsF _ v (fr false 7 32) := hv2; obtain ⟨va, vb, rfl, h1, h2⟩ := hv2; obtain ⟨p6, cp6, rfl, _, _⟩ := h1.shape; obtain ⟨q6, cq6, rfl, _, _⟩ := h2.shape)
       | (go_at_call 10; refine (Chance_c _ _ _ R (fr false 1 2) ?_ ?_).mono ?_; exact HR.out.after hk1; exact hv; rw [HCH.out]; rintro e wb ⟨v, rfl, hv2, hb2⟩; have hk2 := hk1.trans (hb2.mono hk1.size); have hv2 : IsF _ v (fr false 7 32) := hv2; obtain ⟨va, vb, rfl, h1, h2⟩ := hv2; obtain ⟨p6, cp6, rfl, _, _⟩ := h1.shape; obtain ⟨q6, cq6, rfl, _, _⟩ := h2.shape)
       | (fail))
    all_goals
      (go_wp2_with fail
       go_meet
       case rel =>
         first
         | (refine ⟨_, rfl, rfl, ?_, ?_, ?_⟩
            rotate_left
            · (first | (with_reducible exact Lib.hid (VarF.putH CZ (IsF.at_ h1 h2))) | (with_reducible exact Lib.hid (VarF.newH (IsF.at_ h1 h2))))
            · (first | (with_reducible exact Lib.hid (Below.putH hk2 hle)) | (with_reducible exact Lib.hid (held_alloc hk2)))
            · (first | (with_reducible exact Nat.le_refl _) | (with_reducible exact hle) | (with_reducible exact hk2.size) | omega)))
  case rest =>
    obtain ⟨bq, rfl, rfl, hbq, hvq, hbc⟩ := hcut
    have HAC := Lib.hid (HAS.out.after hbc.out)
    replace KL := Lib.hid (keep_cell hbc.out KL.out)
    replace HB := Lib.hid (HB.out.trans (hbc.out.mono HB.out.size))
    obtain ⟨X, hX⟩ : ∃ X, fr false 7 32 = X := ⟨_, rfl⟩
    rw [hX] at hvq
    have HW7 : Hid ((ofF 7 32).1 = X) := by show _ = _; rw [w_732, hX]
    obtain ⟨va, vb, bx, g1, g2⟩ := hvq.out
    obtain ⟨px, cx, rfl, _, _⟩ := g1.shape
    obtain ⟨qx, dx, rfl, _, _⟩ := g2.shape
    have FX := Lib.hid (IsF.at_ g1 g2)
    have BX := Lib.hid bx
    have hltx := bx.lt
    have hltl : lb < wc.heap.size := World.block_lt_of_cell? _ _ KL.out
    have mkS2 : Hid (∀ w', Below wc.heap.size wc w' → w'.cell? ⟨bq, 0, none⟩ = some (.bool X.neg) ∧ w'.cell? ⟨bq, 1, none⟩ = some (.slice px X.num.length cx) ∧ w'.cell? ⟨bq, 2, none⟩ = some (.slice qx X.den.length dx) ∧ w'.cell? ⟨lb, 6, none⟩ = some (.int .u8 3)) := fun w' hb => by
      obtain ⟨c0, c1, c2⟩ := (BX.out.after hb).cells3
      exact ⟨c0, c1, c2, keep_cell hb KL.out⟩
    clear hvq hbc bx g1 g2 hX mkS HAS HCH HAL HRN HN1 HN3 HS
    go_upto_region 9 with fail
    go_region_held3 (fun w' => w'.cell? ⟨bq, 0, none⟩ = some (.bool X.neg) ∧ w'.cell? ⟨bq, 1, none⟩ = some (.slice px X.num.length cx) ∧ w'.cell? ⟨bq, 2, none⟩ = some (.slice qx X.den.length dx) ∧ w'.cell? ⟨lb, 6, none⟩ = some (.int .u8 3))
      (first | (refine mkS2.out _ ?_; (repeat (first | with_reducible exact hk3 | with_reducible exact hk2 | with_reducible exact hk1 | with_reducible exact Below.refl _ _ | with_reducible refine below_dr ?_ | with_reducible refine held_alloc ?_)); done))
      (first
       | (go_at_call 12; refine (equal_i _ _ _ [1, 2, 3] [1, 2, 3] ?_ ?_).mono ?_; exact (HAC.out.after (below_dr (Below.refl _ wc))).after (held_alloc (Below.refl _ _)); exact SlI.lit (l := [1, 2, 3]) (Box.new _ _ _) rfl (by unfold In64; decide) (by decide); intro e wa hr; obtain ⟨rfl, hw⟩ := hr.yes rfl; have hb1 := below_dn hw; have hk1 : Below wc.heap.size wc wa := (after_new (below_of_drew hb1)).1)
       | (go_at_call 7; refine (of32_c _ 7 32 (by omega) (by omega) (by omega) (by omega)).mono ?_; rw [HW7.out]; rintro e wb ⟨v, rfl, hv, hb2⟩; have hk2 := hk1.trans (hb2.mono hk1.size))
       | (go_at_call 13; refine (Same_c _ _ _ X X (FX.out.after hk2) hv).mono ?_; intro e wd hr; obtain ⟨rfl, hb3⟩ := hr.yes rfl; have hk3 := hk2.trans (hb3.mono hk2.size)))
    have HEND := Lib.hid (HB.out.trans (hk3.mono HB.out.size))
    clear hk1 hk2 hk3 mkS2
    go_wp2_with fail
    go_ret
    exact ⟨rfl, HEND.out⟩
end Go.Proofs.Ytebmegodeglobaa

namespace Go.Proofs.Ytebmegodeglobaa
open Go.RowKit

theorem Sum_n (w : World) (va vb : Value) (a b : Nat) (h : Sl w va (limbs a)) (k : Sl w vb (limbs b)) (ha : (limbs a).length ≤ 1000000) (hb : (limbs b).length ≤ 1000000) :
    Calls Try.prog 81 #[va, vb] w (RetNat w (a + b)) := by
  have := Sum_c w va vb _ _ h k ha hb; rwa [val_limbs, val_limbs] at this
theorem Diff_n (w : World) (va vb : Value) (a b : Nat) (h : Sl w va (limbs a)) (k : Sl w vb (limbs b)) (hle : b ≤ a) (ha : (limbs a).length ≤ 1000000) :
    Calls Try.prog 69 #[va, vb] w (RetNat w (a - b)) := by
  have := Diff_c w va vb _ _ h k (limbs_len_mono hle) (by rw [val_limbs, val_limbs]; exact hle) ha; rwa [val_limbs, val_limbs] at this
theorem CmpS.is {m n : Nat} {r : Int} (h : CmpS (limbs m) (limbs n) r) : r = if m < n then -1 else if m = n then 0 else 1 := by
  have h1 := h.le
  have h2 := CmpS.ge h
  obtain ⟨g1, g2, g3⟩ := h
  by_cases c1 : m < n
  · rw [if_pos c1]
    rcases Nat.lt_trichotomy (limbs m).length (limbs n).length with l | l | l
    · exact g1 l
    · rcases g3 l with ⟨_, e⟩ | ⟨_, e⟩ | ⟨_, e⟩ <;> omega
    · have := g2 l; omega
  · rw [if_neg c1]
    by_cases c2 : m = n
    · rw [if_pos c2]; omega
    · rw [if_neg c2]
      rcases Nat.lt_trichotomy (limbs m).length (limbs n).length with l | l | l
      · have := g1 l; omega
      · rcases g3 l with ⟨_, e⟩ | ⟨_, e⟩ | ⟨_, e⟩ <;> omega
      · exact g2 l
theorem ordN_same {n1 : Bool} {a b c d : Nat} {r : Int} (h : CmpS (limbs (a * d)) (limbs (c * b)) r) : ordN n1 a b n1 c d = if n1 = true then -r else r := by
  unfold ordN
  rw [if_pos rfl, ← h.is]
theorem cmp_bd {m n : Nat} {r : Int} (h : CmpS (limbs m) (limbs n) r) : -1 ≤ r ∧ r ≤ 1 := by rw [h.is]; split; omega; split <;> omega

end Go.Proofs.Ytebmegodeglobaa

namespace Go.Proofs.Ytebmegodeglobaa
open Go.RowKit

/-- Whether it goes on at n hosts with k failures, as the exact tail says. -/
theorem goB_tail {R : Ro} (h : ValidR R) {n k : Nat} (hn : n ≤ 16) (hk : k ≤ n + 1) : ∃ x, tailF (n : Int) (k : Int) R.rate = (x, 0) ∧ ((cmpF x R.bound).1 > 0 ↔ GoB R n k) := by
  obtain ⟨a, b, x, y, e1, h1, h2, h3, h4, e2, h5, h6, hg⟩ := validR_fr h
  rw [e1, e2]
  obtain ⟨ht, hrep⟩ := tailF_q (m := n) (k := k) h4 h1 h3 (by omega) hk
  refine ⟨_, ht, ?_⟩
  rw [hg, rep_cmp hrep (rep_of_ok h5)]
  unfold Abv
  rw [show a + (b - a) = b by omega]
  have key : (((tl a (b - a) n k : Nat) : Int) * (y : Int) > (x : Int) * ((b ^ n : Nat) : Int)) ↔ b ^ n * x < tl a (b - a) n k * y := by
    rw [← Int.natCast_mul, ← Int.natCast_mul, Nat.mul_comm (b ^ n) x]
    omega
  rw [← key, show sg false x = (x : Int) from rfl]
  generalize ((tl a (b - a) n k : Nat) : Int) * (y : Int) = P
  generalize (x : Int) * ((b ^ n : Nat) : Int) = Q
  show (if P < Q then (-1 : Int) else if P = Q then 0 else 1) > 0 ↔ P > Q
  split
  · omega
  · split <;> omega

end Go.Proofs.Ytebmegodeglobaa

namespace Go.Proofs.Ytebmegodeglobaa
open Go.RowKit

theorem FreshFrom.mono {B C : Nat} {v : Value} (h : FreshFrom B v) (hc : C ≤ B) : FreshFrom C v := fun a n c e => Nat.le_trans hc (h a n c e)
/-- The result's variable, at D, is written. -/
def Dec1 (w : World) (D : Nat) (d : Dec) (W : World) : Prop := ∃ v, Box W D #[.int .u8 (d.kind : Int), v] 36 ∧ SlT W v d.hosts ∧ Below w.heap.size w W
theorem dec1_store {w W : World} {D : Nat} {x0 x1 : Value} (hD : Box W D #[x0, x1] 36) (hle : w.heap.size ≤ D) (hb : Below w.heap.size w W) {v : Value} {k : Nat} {l : List Int} (hs : SlT W v l) (hf : FreshFrom (D + 1) v) :
    Dec1 w D ⟨k, l⟩ ((W.setCell ⟨D, 0, none⟩ (.int .u8 (k : Int))).setCell ⟨D, 1, none⟩ v) := by
  refine ⟨v, ?_, ?_, (hb.setCell (p := ⟨D, 0, none⟩) hle _).setCell (p := ⟨D, 1, none⟩) hle _⟩
  · have := (hD.set 0 (.int .u8 (k : Int))).set 1 v
    simpa using this
  · exact (hs.setLow hf (g := D) (i := 0) (by omega) _).setLow hf (g := D) (i := 1) (by omega) _

end Go.Proofs.Ytebmegodeglobaa

namespace Go.Proofs.Ytebmegodeglobaa
open Go.RowKit Go.Shelf

theorem cutR_cutR (R : Ro) : cutR (cutR R) = cutR R := by
  unfold cutR cut34
  simp [List.take_take]
theorem SlB.cut {w : World} {p : Option Addr} {c : Nat} {l : List Bool} (h : SlB w (.slice p l.length c) l) : SlB w (.slice p (min (l.length : Int) 18).toNat c) (l.take 18) := by
  have hn : (min (l.length : Int) 18).toNat = min 18 l.length := by omega
  have := h.front (min 18 l.length) (by omega)
  rw [hn]
  rw [show l.take 18 = l.take (min 18 l.length) by
    rcases Nat.le_total 18 l.length with h1 | h1
    · rw [Nat.min_eq_left h1]
    · rw [Nat.min_eq_right h1, List.take_of_length_le h1, List.take_length]]
  exact this
/-- The variable of a rollout bears neither limbs nor ints, whatever its slices. -/
theorem dull_var {w : World} {b : Nat} {p0 p1 p2 p3 p4 p5 : Option Addr} {n0 n1 n2 n3 n4 n5 k0 k1 k2 k3 k4 k5 : Nat} {s t : Bool} (h : Box w b #[.slice p0 n0 k0, .slice p1 n1 k1, .bool s, .slice p2 n2 k2, .slice p3 n3 k3, .bool t, .slice p4 n4 k4, .slice p5 n5 k5] 28) : Dull (fun g => g = b) w := by
  refine ⟨?_, ?_⟩
  · rintro g rfl
    exact h.noTag (by decide) _ rfl
  · rintro g o z rfl hc
    rw [h.cell] at hc
    rcases o with _ | _ | _ | _ | _ | _ | _ | _ | o <;> simp at hc
/-- A rollout's value stored into a variable of a rollout. -/
theorem ro_store {w : World} {b : Nat} {p0 p1 p2 p3 p4 p5 : Option Addr} {n0 n1 n2 n3 n4 n5 k0 k1 k2 k3 k4 k5 : Nat} {s t : Bool} {R : Ro} {a0 a1 a2 a3 a4 a5 : Option Addr} {e0 e1 e2 e3 e4 e5 : Nat}
    (h : Box w b #[.slice p0 n0 k0, .slice p1 n1 k1, .bool s, .slice p2 n2 k2, .slice p3 n3 k3, .bool t, .slice p4 n4 k4, .slice p5 n5 k5] 28)
    (hR : IsR w (.agg #[.slice a0 R.hosts.length e0, .slice a1 R.waves.length e1, .bool R.rate.neg, .slice a2 R.rate.num.length e2, .slice a3 R.rate.den.length e3, .bool R.bound.neg, .slice a4 R.bound.num.length e4, .slice a5 R.bound.den.length e5]) R) :
    Box (set8 w b (.slice a0 R.hosts.length e0) (.slice a1 R.waves.length e1) (.bool R.rate.neg) (.slice a2 R.rate.num.length e2) (.slice a3 R.rate.den.length e3) (.bool R.bound.neg) (.slice a4 R.bound.num.length e4) (.slice a5 R.bound.den.length e5)) b #[.slice a0 R.hosts.length e0, .slice a1 R.waves.length e1, .bool R.rate.neg, .slice a2 R.rate.num.length e2, .slice a3 R.rate.den.length e3, .bool R.bound.neg, .slice a4 R.bound.num.length e4, .slice a5 R.bound.den.length e5] 28 ∧
    IsR (set8 w b (.slice a0 R.hosts.length e0) (.slice a1 R.waves.length e1) (.bool R.rate.neg) (.slice a2 R.rate.num.length e2) (.slice a3 R.rate.den.length e3) (.bool R.bound.neg) (.slice a4 R.bound.num.length e4) (.slice a5 R.bound.den.length e5)) (.agg #[.slice a0 R.hosts.length e0, .slice a1 R.waves.length e1, .bool R.rate.neg, .slice a2 R.rate.num.length e2, .slice a3 R.rate.den.length e3, .bool R.bound.neg, .slice a4 R.bound.num.length e4, .slice a5 R.bound.den.length e5]) R :=
  ⟨set8_box h _ _ _ _ _ _ _ _, hR.fx ((Fx.refl (fun g => g = b) w).of (set8_grown w b _ _ _ _ _ _ _ _) rfl) (dull_var h)⟩
theorem set8_below {w0 w : World} {b : Nat} {y0 y1 y2 y3 y4 y5 y6 y7 : Value} (h : Below w0.heap.size w0 w) (hb : w0.heap.size ≤ b) : Below w0.heap.size w0 (set8 w b y0 y1 y2 y3 y4 y5 y6 y7) :=
  h.grown (set8_grown w b _ _ _ _ _ _ _ _) h.size (fun g e => by injection e with e; omega)
/-- A decision's value in a variable. -/
theorem VarD.put {w : World} {B : Nat} {d : Dec} {p : Option Addr} {c : Nat} (hB : Box w B #[.int .u8 0, .slice none 0 0] 36) (h : SlT w (.slice p d.hosts.length c) d.hosts) :
    VarD ((w.setCell ⟨B, 0, none⟩ (.int .u8 (d.kind : Int))).setCell ⟨B, 1, none⟩ (.slice p d.hosts.length c)) B d := by
  have hg := grown_tr (grown_set w B 0 (.int .u8 (d.kind : Int))) (grown_set _ B 1 (.slice p d.hosts.length c))
  refine ⟨p, c, ?_, (h.grown hg (hB.noInt (by decide))).1⟩
  have := (hB.set 0 (.int .u8 (d.kind : Int))).set 1 (.slice p d.hosts.length c)
  simpa using this
theorem below_put2 {w0 w : World} {B : Nat} {x y : Value} (h : Below w0.heap.size w0 w) (hle : w0.heap.size ≤ B) : Below w0.heap.size w0 ((w.setCell ⟨B, 0, none⟩ x).setCell ⟨B, 1, none⟩ y) :=
  (h.setCell (p := ⟨B, 0, none⟩) hle x).setCell (p := ⟨B, 1, none⟩) hle y
theorem SlT.alloc {w : World} {v : Value} {l : List Int} (h : SlT w v l) (o : Obj) : SlT (w.alloc o) v l := h.after (held_alloc (Below.refl _ w))
theorem VarD.makeT {w : World} {d : Dec} {p : Option Addr} {c : Nat} (h : SlT w (.slice p d.hosts.length c) d.hosts) : VarD (w.alloc (.cells #[.int .u8 (d.kind : Int), .slice p d.hosts.length c] 36)) w.heap.size d := VarD.make h.1
theorem agg8_inj {x0 x1 x2 x3 x4 x5 x6 x7 y0 y1 y2 y3 y4 y5 y6 y7 : Value} (h : Value.agg #[x0, x1, x2, x3, x4, x5, x6, x7] = .agg #[y0, y1, y2, y3, y4, y5, y6, y7]) : x0 = y0 ∧ x1 = y1 ∧ x2 = y2 ∧ x3 = y3 ∧ x4 = y4 ∧ x5 = y5 ∧ x6 = y6 ∧ x7 = y7 := by
  have h := congrArg Array.toList (Value.agg.inj h)
  simpa using h
theorem IsR.parts {w : World} {R : Ro} {x0 x1 x2 x3 x4 x5 x6 x7 : Value} (h : IsR w (.agg #[x0, x1, x2, x3, x4, x5, x6, x7]) R) : SlI w x0 R.hosts ∧ SlI w x1 R.waves ∧ IsF w (.agg #[x2, x3, x4]) R.rate ∧ IsF w (.agg #[x5, x6, x7]) R.bound := by
  obtain ⟨vh, vw, va, vb, vc, vd, e, h1, h2, h3, h4, h5, h6⟩ := h
  obtain ⟨rfl, rfl, rfl, rfl, rfl, rfl, rfl, rfl⟩ := agg8_inj e
  exact ⟨h1, h2, ⟨_, _, rfl, h3, h4⟩, ⟨_, _, rfl, h5, h6⟩⟩
theorem SlD.shape4 {w : World} {v : Value} {ds : List Dec} (h : SlD w v ds) : ∃ a cap, v = .slice a ds.length cap ∧ ds.length ≤ cap ∧ cap ≤ 9223372036854775807 ∧ (a = none → cap = 0) := by
  obtain ⟨a, cap, h1, h2, h3, h4, _⟩ := h
  exact ⟨a, cap, h1, h2, h3, h4⟩
end Go.Proofs.Ytebmegodeglobaa
