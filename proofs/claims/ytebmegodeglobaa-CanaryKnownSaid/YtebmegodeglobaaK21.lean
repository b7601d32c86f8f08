/- Walks of package canary: Next.
   Walks of package canary: what Run wants; an append as one step of a region that draws, in a round.
   Canary, plain: the values of the chapter's example. -/
import Derived.Test.YtebmegodeglobaaK20
import Derived.Test.YtebmegodeglobaaK19
import Derived.OwnWalkIn
import Derived.Test.YtebmegodeglobaaK18
set_option linter.unusedVariables false
namespace Go.Proofs.Ytebmegodeglobaa
open Go.RowKit Go.Shelf
attribute [local go_sem] Oper.semAt_some wide_fn

/-- The result is a decision and an error. -/
def RetD (w : World) (r : Dec × Int) (e : Ending) (w' : World) : Prop := ∃ v, e = .returned (.tuple #[.agg #[.int .u8 (r.1.kind : Int), v], .int .i64 r.2]) ∧ SlT w' v r.1.hosts ∧ Below w.heap.size w w'
/-- The result's two variables, at D and behind it, are written. -/
def DecAt (w : World) (D : Nat) (r : Dec × Int) (W : World) : Prop := ∃ v, Box W D #[.int .u8 (r.1.kind : Int), v] 36 ∧ Box W (D + 1) #[.int .i64 r.2] 31 ∧ SlT W v r.1.hosts ∧ Below w.heap.size w W
theorem dec_store {w W : World} {D : Nat} {x0 x1 y : Value} (hD : Box W D #[x0, x1] 36) (hE : Box W (D + 1) #[y] 31) (hle : w.heap.size ≤ D) (hb : Below w.heap.size w W) {v : Value} {k : Nat} {e : Int} {l : List Int} (hs : SlT W v l) (hf : FreshFrom (D + 2) v) :
    DecAt w D (⟨k, l⟩, e) (((W.setCell ⟨D, 0, none⟩ (.int .u8 (k : Int))).setCell ⟨D, 1, none⟩ v).setCell ⟨D + 1, 0, none⟩ (.int .i64 e)) := by
  refine ⟨v, ?_, ?_, ?_, ((hb.setCell (p := ⟨D, 0, none⟩) hle _).setCell (p := ⟨D, 1, none⟩) hle _).setCell (p := ⟨D + 1, 0, none⟩) (Nat.le_succ_of_le hle) _⟩
  · have := ((hD.set 0 (.int .u8 (k : Int))).set 1 v).far (p := ⟨D + 1, 0, none⟩) (by simp) (.int .i64 e)
    simpa using this
  · have := ((hE.far (p := ⟨D, 0, none⟩) (by simp) (.int .u8 (k : Int))).far (p := ⟨D, 1, none⟩) (by simp) v).set 0 (.int .i64 e)
    simpa using this
  · exact ((hs.setLow hf (g := D) (i := 0) (by omega) _).setLow hf (g := D) (i := 1) (by omega) _).setLow hf (g := D + 1) (i := 0) (by omega) _
theorem dec_keep {w2 W : World} {B D : Nat} {x0 x1 y : Value} (hD : Box W D #[x0, x1] 36) (hE : Box W (D + 1) #[y] 31) (hk : KeepSoft B w2 W) (a b c : Value) : KeepSoft B w2 (((W.setCell ⟨D, 0, none⟩ a).setCell ⟨D, 1, none⟩ b).setCell ⟨D + 1, 0, none⟩ c) := by
  refine ((hk.setCell (v := x0) (hD.cell 0)).setCell (v := x1) ?_).setCell (v := y) ?_
  · have := (hD.set 0 a).cell 1
    simpa using this
  · exact ((hE.far (p := ⟨D, 0, none⟩) (by simp) a).far (p := ⟨D, 1, none⟩) (by simp) b).cell 0
theorem DecAt.soft {w W W' : World} {D n : Nat} {r : Dec × Int} (h : DecAt w D r W) (hs : Soft W n) (hn : w.heap.size ≤ n) (hg : W.grownBy W' (some n)) : DecAt w D r W' := by
  obtain ⟨v, h1, h2, h3, h4⟩ := h
  exact ⟨v, h1.soft hs hg, h2.soft hs hg, h3.soft hs hg, h4.grown hg h4.size (fun g e => by injection e with e; omega)⟩
section
variable {R : Ro} {failed : List Bool} {r k : Nat}
theorem nextW_end : nextW R failed r 0 = (⟨3, []⟩, 0) := rfl
theorem nextW_wave (h : failed.length = cum R r) : nextW R failed r (k + 1) = (⟨1, hostsOf R (cum R r) (cum R (r + 1))⟩, 0) := by rw [nextW, if_pos h]
theorem nextW_early (h : failed.length ≠ cum R r) (h2 : failed.length < cum R (r + 1)) : nextW R failed r (k + 1) = (⟨0, []⟩, 8) := by rw [nextW, if_neg h, if_pos h2]
theorem nextW_go (h : failed.length ≠ cum R r) (h2 : ¬ failed.length < cum R (r + 1)) (h3 : GoB R (cum R (r + 1)) (failsN failed (cum R (r + 1)))) : nextW R failed r (k + 1) = nextW R failed (r + 1) k := by rw [nextW, if_neg h, if_neg h2, if_pos h3]
theorem nextW_late (h : failed.length ≠ cum R r) (h2 : ¬ failed.length < cum R (r + 1)) (h3 : ¬ GoB R (cum R (r + 1)) (failsN failed (cum R (r + 1)))) (h4 : cum R (r + 1) < failed.length) : nextW R failed r (k + 1) = (⟨0, []⟩, 8) := by
  rw [nextW, if_neg h, if_neg h2, if_neg h3, if_pos h4]
theorem nextW_stop (h : failed.length ≠ cum R r) (h2 : ¬ failed.length < cum R (r + 1)) (h3 : ¬ GoB R (cum R (r + 1)) (failsN failed (cum R (r + 1)))) (h4 : ¬ cum R (r + 1) < failed.length) : nextW R failed r (k + 1) = (⟨2, []⟩, 0) := by
  rw [nextW, if_neg h, if_neg h2, if_neg h3, if_neg h4]
end
/-- So far it went on, and memory is as it was. -/
def NJ (R : Ro) (failed : List Bool) (W1 : World) (r : Nat) (W : World) : Prop := Below W1.heap.size W1 W ∧ nextW R failed 0 R.waves.length = nextW R failed r (R.waves.length - r)
/-- What a round's assignment leaves: the boundary in a variable of its own. -/
def AsB (R : Ro) (F : Nat → Nat → Option Addr → Nat → World → Act) (r : Nat) (args : Array Value) (a1 : Act) (W w1 : World) : Prop :=
  ∃ (m : Nat) (a : Option Addr) (c : Nat), (m ≤ cum R (r + 1) + 1 ∧ (∀ k : Nat, GoB R (cum R (r + 1)) k ↔ k < m) ∧ SlI W (.slice a (hostsOf R (cum R r) (cum R (r + 1))).length c) (hostsOf R (cum R r) (cum R (r + 1)))) ∧
    w1 = W.alloc (.cells #[.int .i64 ((cum R (r + 1) : Nat) : Int), .int .i64 ((m : Int) - 1), .slice a (hostsOf R (cum R r) (cum R (r + 1))).length c] 57) ∧ a1 = F r m a c W
theorem AsB.mk {R : Ro} {F : Nat → Nat → Option Addr → Nat → World → Act} {r m : Nat} {a : Option Addr} {c : Nat} {args : Array Value} {W : World} (h : m ≤ cum R (r + 1) + 1 ∧ (∀ k : Nat, GoB R (cum R (r + 1)) k ↔ k < m) ∧ SlI W (.slice a (hostsOf R (cum R r) (cum R (r + 1))).length c) (hostsOf R (cum R r) (cum R (r + 1)))) :
    AsB R F r args (F r m a c W) W (W.alloc (.cells #[.int .i64 ((cum R (r + 1) : Nat) : Int), .int .i64 ((m : Int) - 1), .slice a (hostsOf R (cum R r) (cum R (r + 1))).length c] 57)) := ⟨m, a, c, h, rfl, rfl⟩
theorem failures_in (l : Nat) (w : World) (v : Value) (bs : List Bool) (h : SlB w v bs) : CallsIn (Fence.wide.inRound l) 3 Try.prog 17 #[v] w fun e w' => e = .returned (.int .i64 ((bs.count true : Nat) : Int)) ∧ w' = w :=
  CallsIn.inRound l (callsIn_wide.2 (failures_c w v bs h))

set_option maxRecDepth 100000 in
set_option maxHeartbeats 4000000 in
theorem Next_c (w : World) (v u : Value) (R : Ro) (failed : List Bool) (h : IsR w v R) (k : SlB w u failed) : Calls Try.prog 5 #[v, u] w (RetD w (nextF R failed)) := by
  have HX := h
  have HY := k
  obtain ⟨p0, p1, p2, p3, p4, p5, k0, k1, k2, k3, k4, k5, rfl, h0, h1, h2, h3⟩ := h.open
  obtain ⟨p, c, rfl, hc1, hc2, _⟩ := k.shape
  obtain ⟨W0, hW, bP, bF, bD, bE, hsz, hb0⟩ : ∃ W0, W0 = (((w.alloc (.cells #[.slice p0 R.hosts.length k0, .slice p1 R.waves.length k1, .bool R.rate.neg, .slice p2 R.rate.num.length k2, .slice p3 R.rate.den.length k3, .bool R.bound.neg, .slice p4 R.bound.num.length k4, .slice p5 R.bound.den.length k5] 28)).alloc (.cells #[.slice p failed.length c] 32)).alloc (.cells #[.int .u8 0, .slice none 0 0] 36)).alloc (.cells #[.int .i64 0] 31) ∧
      Box W0 w.heap.size #[.slice p0 R.hosts.length k0, .slice p1 R.waves.length k1, .bool R.rate.neg, .slice p2 R.rate.num.length k2, .slice p3 R.rate.den.length k3, .bool R.bound.neg, .slice p4 R.bound.num.length k4, .slice p5 R.bound.den.length k5] 28 ∧ Box W0 (w.heap.size + 1) #[.slice p failed.length c] 32 ∧ Box W0 (w.heap.size + 1 + 1) #[.int .u8 0, .slice none 0 0] 36 ∧ Box W0 (w.heap.size + 1 + 1 + 1) #[.int .i64 0] 31 ∧ W0.heap.size = w.heap.size + 4 ∧ Below w.heap.size w W0 :=
    ⟨_, rfl, fourA rfl, fourB rfl, fourC rfl, fourD rfl, by simp, held_alloc (held_alloc (held_alloc (held_alloc (Below.refl _ w))))⟩
  obtain ⟨c0, c1, c2, c3, c4, c5, c6, c7⟩ := bP.cells8
  have d0 : W0.cell? ⟨w.heap.size + 1, 0, none⟩ = some (.slice p failed.length c) := bF.cell 0
  have HP := Lib.hid (HX.after hb0)
  have HF := Lib.hid (HY.after hb0)
  have HB0 := Lib.hid hb0
  have BP := Lib.hid bP
  have BF := Lib.hid bF
  have BD := Lib.hid bD
  have BE := Lib.hid bE
  obtain ⟨_, ch, eh, mh1, mh2, _⟩ := h0.shape
  have hhl : R.hosts.length ≤ 9223372036854775807 := by omega
  have HSZ := Lib.hid hsz
  clear HX HY h k h0 h1 h2 h3 bP bF bD bE hb0 eh mh1 mh2 hsz
  by_cases hv : ValidR R
  · have HV := Lib.hid hv
    clear hv
    by_cases hl : R.hosts.length < failed.length
    · have hfin : Hid (nextF R failed = (⟨0, []⟩, 2)) := by show _ = _; unfold nextF; rw [if_pos HV.out, if_pos hl]
      go_enter Try.func5, Try.ntmps5
      go_upto_region 1 with fail
      rw [← hW]
      clear hW
      go_wp2_with fail
      refine (cValid_c _ _ R HP.out).mono ?_
      intro e w1 hr
      obtain ⟨rfl, hb1⟩ := hr.yes HV.out
      obtain ⟨c0, c1, c2, c3, c4, c5, c6, c7⟩ := (BP.out.after hb1).cells8
      have d0 : w1.cell? ⟨w.heap.size + 1, 0, none⟩ = some (.slice p failed.length c) := (BF.out.after hb1).cell 0
      have bd := BD.out.after hb1
      have be := BE.out.after hb1
      have r0 : w1.cell? ⟨w.heap.size + 1 + 1, 0, none⟩ = some (.int .u8 0) := bd.cell 0
      have r1 : w1.cell? ⟨w.heap.size + 1 + 1, 1, none⟩ = some (.slice none 0 0) := bd.cell 1
      have r2 : w1.cell? ⟨w.heap.size + 1 + 1 + 1, 0, none⟩ = some (.int .i64 0) := be.cell 0
      have f0 := bd.frozen 0
      have f1 := bd.frozen 1
      have f2 := be.frozen 0
      have HST := Lib.hid (dec_store (k := 0) (e := 2) bd be (by omega) (HB0.out.trans (hb1.mono HB0.out.size)) (SlT.nil _) (FreshFrom.nil _))
      clear hr hb1 bd be
      go_wp2_with fail
      obtain ⟨W5, hW5⟩ : ∃ W5, W5 = ((w1.setCell ⟨w.heap.size + 1 + 1, 0, none⟩ (.int .u8 0)).setCell ⟨w.heap.size + 1 + 1, 1, none⟩ (.slice none 0 0)).setCell ⟨w.heap.size + 1 + 1 + 1, 0, none⟩ (.int .i64 2) := ⟨_, rfl⟩
      obtain ⟨v', b1, b2, hs', hbel⟩ : DecAt w (w.heap.size + 1 + 1) (⟨0, []⟩, 2) W5 := hW5 ▸ HST.out
      rw [← hW5]
      clear hW5 HST r0 r1 r2 f0 f1 f2
      have e0 : W5.cell? ⟨w.heap.size + 1 + 1, 0, none⟩ = some (.int .u8 0) := b1.cell 0
      have e1 : W5.cell? ⟨w.heap.size + 1 + 1, 1, none⟩ = some v' := b1.cell 1
      have e2 : W5.cell? ⟨w.heap.size + 1 + 1 + 1, 0, none⟩ = some (.int .i64 2) := b2.cell 0
      refine bodyPost_ret (v := .tuple #[.agg #[.int .u8 0, v'], .int .i64 2]) (by simp [results, Try.results5, go_sem, e0, e1, e2]) rfl ?_
      rw [hfin.out]
      exact ⟨v', rfl, hs', hbel⟩
    · have hlen : failed.length ≤ R.hosts.length := Nat.le_of_not_lt hl
      have h16 : R.hosts.length ≤ 16 := HV.out.2.1
      have hnx : Hid (nextF R failed = nextW R failed 0 R.waves.length) := by show _ = _; unfold nextF; rw [if_pos HV.out, if_neg hl]
      clear hl
      refine callsIn_wide (n := 6).1 (callsIn_of_wp_marks Try.func5 rfl trivial (wpIn_wide.2 ?_) rfl)
      simp only [Try.ntmps5, List.size_toArray, List.length_cons, List.length_nil, Nat.reduceAdd, Nat.reduceSub, Array.replicate_succ, Array.replicate_zero, List.push_toArray, List.append_toArray, List.nil_append, List.cons_append]
      go_upto_region 1 with fail
      rw [← hW]
      clear hW
      go_wp2_with fail
      refine (cValid_c _ _ R HP.out).mono ?_
      intro e w1 hr
      obtain ⟨rfl, hb1⟩ := hr.yes HV.out
      obtain ⟨c0, c1, c2, c3, c4, c5, c6, c7⟩ := (BP.out.after hb1).cells8
      have d0 : w1.cell? ⟨w.heap.size + 1, 0, none⟩ = some (.slice p failed.length c) := (BF.out.after hb1).cell 0
      have HP1 := Lib.hid (HP.out.after hb1)
      have HF1 := Lib.hid (HF.out.after hb1)
      have BF1 := Lib.hid (BF.out.after hb1)
      have BD1 := Lib.hid (BD.out.after hb1)
      have BE1 := Lib.hid (BE.out.after hb1)
      have HB1 := Lib.hid (HB0.out.trans (hb1.mono HB0.out.size))
      have hs1 := HB1.out.size
      have hlt1 := (BE.out.after hb1).lt
      clear hr hb1 HP HF BP BF BD BE
      go_wp2_with fail
      refine (bounds_t _ p0 p1 p2 p3 p4 p5 R.hosts.length R.waves.length R.rate.num.length R.rate.den.length R.bound.num.length R.bound.den.length k0 k1 k2 k3 k4 k5 R.rate.neg R.bound.neg).mono ?_
      rintro e w' ⟨rfl, rfl⟩
      obtain ⟨W1, hW1⟩ : ∃ W1, W1 = w1.alloc (.cells #[.slice p0 R.hosts.length k0, .slice p1 R.waves.length k1, .bool R.rate.neg, .slice p2 R.rate.num.length k2, .slice p3 R.rate.den.length k3, .bool R.bound.neg, .slice p4 R.bound.num.length k4, .slice p5 R.bound.den.length k5] 28) := ⟨_, rfl⟩
      have hb2 : Below w1.heap.size w1 W1 := hW1 ▸ held_alloc (Below.refl _ w1)
      have bx : Box W1 w1.heap.size (roCells R p0 p1 p2 p3 p4 p5 k0 k1 k2 k3 k4 k5) 28 := hW1 ▸ Box.new w1 _ _
      have IR : Hid (IsR W1 (.agg (roCells R p0 p1 p2 p3 p4 p5 k0 k1 k2 k3 k4 k5)) R) := HP1.out.after hb2
      have BX := Lib.hid bx
      have HF2 := Lib.hid (HF1.out.after hb2)
      have BF2 := Lib.hid (BF1.out.after hb2)
      have BD2 := Lib.hid (BD1.out.after hb2)
      have BE2 := Lib.hid (BE1.out.after hb2)
      have HB2 := Lib.hid (HB1.out.trans (hb2.mono HB1.out.size))
      have hlt2 := bx.lt
      rw [← hW1]
      clear hW1 hb2 bx c0 c1 c2 c3 c4 c5 c6 c7 d0 HP1 HF1 BF1 BD1 BE1 HB1
      go_wp2_with fail
      refine' (wpIn_wide (n := 6)).1 (wpIn_range_inv (n := 6) rfl (by omega) (gf := 27) (lb := #[.pointer (some ⟨w1.heap.size, 0, none⟩)]) rfl trivial (enters_of Try.func27 (by kernel_rfl) rfl) R.waves.length (NJ R failed W1) (BndV R) (fun _ => DecAt w (w.heap.size + 1 + 1) (nextF R failed))
        (by rintro r args W ⟨m, a, c, rfl, _⟩; rfl) (fun r W h => h.1.size) (fun r W W' h hb => ⟨h.1.trans (hb.mono h.1.size), h.2⟩) (fun r W W' l hl h hs hg => ⟨h.1.grown hg h.1.size (fun g e => by injection e with e; omega), h.2⟩) ⟨Below.refl _ _, rfl⟩
        (fun l W2 J' Y hJJ hJb hJ0 hYY => callsIn_wide.2 (bounds1_t l (6 - 1 - 1) W2 w1.heap.size R p0 p1 p2 p3 p4 p5 k0 k1 k2 k3 k4 k5 HV.out J' Y (fun r W h => ⟨BX.out.after (hJJ r W h).1, IR.out.after (hJJ r W h).1⟩) hJb hJ0 hYY))
        (AsB R _) ?hA ?assign ?body ?done ?stop)
      case hA =>
        rintro r args a1 W w1 ⟨m, a, c, _, rfl, _⟩
        exact held_alloc (Below.refl _ W)
      case assign =>
        intro l r args W K hr hj hv hK
        obtain ⟨m, a, c, rfl, hm⟩ := hv
        have HM := Lib.hid hm
        clear hm hj
        gi_wp2
        exact AsB.mk HM.out
      case body =>
        rintro l r args W wA w2 a1 hr hj hv ⟨m, a, c', ⟨hm, hg, hsl⟩, rfl, rfl⟩ hj2 hsf hlW hgr
        obtain ⟨k, hk⟩ : ∃ k, R.waves.length - r = k + 1 := ⟨R.waves.length - r - 1, by omega⟩
        have hnext : Hid (nextF R failed = nextW R failed r (k + 1)) := by show _ = _; rw [hnx.out, hj2.2, hk]
        have hk' : R.waves.length - (r + 1) = k := by omega
        have HK' := Lib.hid hk'
        have HKK := Lib.hid hk
        have hb2 := hj2.1
        obtain ⟨s1, s2, s3⟩ := cum_succ HV.out hr
        have s4 := cum_le HV.out (r + 1)
        have hL := hostsOf_len HV.out hr
        have l1 : cum R r + (hostsOf R (cum R r) (cum R (r + 1))).length ≤ cum R (r + 1) := by omega
        have l2 : cum R (r + 1) ≤ cum R r + (hostsOf R (cum R r) (cum R (r + 1))).length := by omega
        obtain ⟨v0, v1, v2⟩ := ((Box.new W #[.int .i64 ((cum R (r + 1) : Nat) : Int), .int .i64 ((m : Int) - 1), .slice a (hostsOf R (cum R r) (cum R (r + 1))).length c'] 57).soft hsf hgr).cells3
        have d0 : w2.cell? ⟨w.heap.size + 1, 0, none⟩ = some (.slice p failed.length c) := (BF2.out.after hb2).cell 0
        have HSL : Hid (SlI w2 (.slice a (hostsOf R (cum R r) (cum R (r + 1))).length c') (hostsOf R (cum R r) (cum R (r + 1)))) := (hsl.alloc _).soft hsf hgr
        have HFA := Lib.hid (HF2.out.after hb2)
        have bd := BD2.out.after hb2
        have be := BE2.out.after hb2
        have r0 : w2.cell? ⟨w.heap.size + 1 + 1, 0, none⟩ = some (.int .u8 0) := bd.cell 0
        have r1 : w2.cell? ⟨w.heap.size + 1 + 1, 1, none⟩ = some (.slice none 0 0) := bd.cell 1
        have r2 : w2.cell? ⟨w.heap.size + 1 + 1 + 1, 0, none⟩ = some (.int .i64 0) := be.cell 0
        have f0 := bd.frozen 0
        have f1 := bd.frozen 1
        have f2 := be.frozen 0
        have hlt3 := be.lt
        have BD3 := Lib.hid bd
        have BE3 := Lib.hid be
        have HBL := Lib.hid hb2
        have HBW := Lib.hid (HB2.out.trans (hb2.mono HB2.out.size))
        have HJ := Lib.hid hj2
        have HG := Lib.hid hg
        have hcl : (failed.take (cum R (r + 1))).count true ≤ cum R (r + 1) := count_take_le _ _
        clear hj hv hj2 hsf hgr hg hsl hb2 bd be hk hk' hL s1 s3
        by_cases q1 : failed.length = cum R r
        · have hfin : Hid (nextF R failed = (⟨1, hostsOf R (cum R r) (cum R (r + 1))⟩, 0)) := by show _ = _; rw [hnext.out, nextW_wave q1]
          have hb1 : ((failed.length : Int) == ((cum R (r + 1) : Nat) : Int) - (((hostsOf R (cum R r) (cum R (r + 1))).length : Nat) : Int)) = true := by rw [beq_iff_eq]; omega
          clear q1
          gi_wp2
          refine (CallsIn.inRound l (callsIn_wide.2 (clone_t w2 _ _ HSL.out (by omega)))).mono ?_
          rintro e w3 ⟨v3, rfl, hv3, hf3, hb3⟩
          obtain ⟨a3, c3, rfl⟩ := hv3.shape
          have bd := BD3.out.after hb3
          have be := BE3.out.after hb3
          have r0 : w3.cell? ⟨w.heap.size + 1 + 1, 0, none⟩ = some (.int .u8 0) := bd.cell 0
          have r1 : w3.cell? ⟨w.heap.size + 1 + 1, 1, none⟩ = some (.slice none 0 0) := bd.cell 1
          have r2 : w3.cell? ⟨w.heap.size + 1 + 1 + 1, 0, none⟩ = some (.int .i64 0) := be.cell 0
          have f0 := bd.frozen 0
          have f1 := bd.frozen 1
          have f2 := be.frozen 0
          have HST := Lib.hid (dec_store (k := 1) (e := 0) bd be (by omega) (HBW.out.trans (hb3.mono HBW.out.size)) hv3 (fun x n c e => Nat.le_trans (by omega) (hf3 x n c e)))
          have HKP := Lib.hid (dec_keep bd be (KeepSoft.of_below hb3 (B := W1.heap.size)) (.int .u8 1) (.slice a3 (hostsOf R (cum R r) (cum R (r + 1))).length c3) (.int .i64 0))
          clear hv3 hf3 hb3 bd be
          gi_wp2
          refine ⟨?_, HKP.out⟩
          rw [hfin.out]
          exact HST.out
        · have hb1 : ((failed.length : Int) == ((cum R (r + 1) : Nat) : Int) - (((hostsOf R (cum R r) (cum R (r + 1))).length : Nat) : Int)) = false := by rw [beq_eq_false_iff_ne]; omega
          by_cases q2 : failed.length < cum R (r + 1)
          · have hfin : Hid (nextF R failed = (⟨0, []⟩, 8)) := by show _ = _; rw [hnext.out, nextW_early q1 q2]
            have HST := Lib.hid (dec_store (k := 0) (e := 8) BD3.out BE3.out (by omega) HBW.out (SlT.nil _) (FreshFrom.nil _))
            have HKP := Lib.hid (dec_keep BD3.out BE3.out (KeepSoft.refl W1.heap.size w2) (.int .u8 0) (.slice none 0 0) (.int .i64 8))
            clear q1
            gi_wp2
            refine ⟨?_, HKP.out⟩
            rw [hfin.out]
            exact HST.out
          · by_cases q3 : GoB R (cum R (r + 1)) (failsN failed (cum R (r + 1)))
            · have hfin : Hid (nextW R failed r (k + 1) = nextW R failed (r + 1) k) := nextW_go q1 q2 q3
              have hcm : (failed.take (cum R (r + 1))).count true < m := (HG.out _).1 q3
              clear q1 q3
              gi_wp2
              refine wpIn_quiet_round (by kernel_rfl) (by kernel_rfl) (by kernel_rfl) ?_
              repeat (gi_big_quiet_step ((gi_at_call 17; exact CallsIn.quiet_of_same (CallsIn.inRound l (callsIn_wide.2 (failures_c _ _ _ (HFA.out.front _ (by omega))))))))
              refine wpQuietIn_nil ?_
              intro _ hw'
              obtain ⟨nq, hw''⟩ := hw'
              subst hw''
              have hbn := below_drewN w2 nq w2.heap.size
              have HNJ : Hid (NJ R failed W1 (r + 1) (w2.drewN nq)) := ⟨HBL.out.trans (hbn.mono HBL.out.size), by rw [HJ.out.2, HKK.out, hfin.out, HK'.out]⟩
              have HKS : Hid (KeepSoft W1.heap.size w2 (w2.drewN nq)) := KeepSoft.of_below hbn
              clear hbn
              gi_wp2
              exact ⟨HNJ.out, HKS.out⟩
            · have hcm : m ≤ (failed.take (cum R (r + 1))).count true := Nat.le_of_not_lt (fun h => q3 ((HG.out _).2 h))
              by_cases q4 : cum R (r + 1) < failed.length
              · have hfin : Hid (nextF R failed = (⟨0, []⟩, 8)) := by show _ = _; rw [hnext.out, nextW_late q1 q2 q3 q4]
                clear q1 q3
                gi_wp2
                refine wpIn_quiet_round (by kernel_rfl) (by kernel_rfl) (by kernel_rfl) ?_
                repeat (gi_big_quiet_step ((gi_at_call 17; exact CallsIn.quiet_of_same (CallsIn.inRound l (callsIn_wide.2 (failures_c _ _ _ (HFA.out.front _ (by omega))))))))
                refine wpQuietIn_nil ?_
                intro _ hw'
                obtain ⟨nq, hw''⟩ := hw'
                subst hw''
                obtain ⟨w3, hw3⟩ : ∃ w3, w3 = w2.drewN nq := ⟨_, rfl⟩
                have hb3 : Below w2.heap.size w2 w3 := hw3 ▸ below_drewN w2 nq w2.heap.size
                rw [← hw3]
                clear hw3
                have d0 : w3.cell? ⟨w.heap.size + 1, 0, none⟩ = some (.slice p failed.length c) := keep_cell hb3 d0
                have v0 := keep_cell hb3 v0
                have bd := BD3.out.after hb3
                have be := BE3.out.after hb3
                have r0 : w3.cell? ⟨w.heap.size + 1 + 1, 0, none⟩ = some (.int .u8 0) := bd.cell 0
                have r1 : w3.cell? ⟨w.heap.size + 1 + 1, 1, none⟩ = some (.slice none 0 0) := bd.cell 1
                have r2 : w3.cell? ⟨w.heap.size + 1 + 1 + 1, 0, none⟩ = some (.int .i64 0) := be.cell 0
                have f0 := bd.frozen 0
                have f1 := bd.frozen 1
                have f2 := be.frozen 0
                have HST := Lib.hid (dec_store (k := 0) (e := 8) bd be (by omega) (HBW.out.trans (hb3.mono HBW.out.size)) (SlT.nil _) (FreshFrom.nil _))
                have HKP := Lib.hid (dec_keep bd be (KeepSoft.of_below hb3 (B := W1.heap.size)) (.int .u8 0) (.slice none 0 0) (.int .i64 8))
                clear hb3 bd be
                gi_wp2
                refine ⟨?_, HKP.out⟩
                rw [hfin.out]
                exact HST.out
              · have hfin : Hid (nextF R failed = (⟨2, []⟩, 0)) := by show _ = _; rw [hnext.out, nextW_stop q1 q2 q3 q4]
                clear q1 q3
                gi_wp2
                refine wpIn_quiet_round (by kernel_rfl) (by kernel_rfl) (by kernel_rfl) ?_
                repeat (gi_big_quiet_step ((gi_at_call 17; exact CallsIn.quiet_of_same (CallsIn.inRound l (callsIn_wide.2 (failures_c _ _ _ (HFA.out.front _ (by omega))))))))
                refine wpQuietIn_nil ?_
                intro _ hw'
                obtain ⟨nq, hw''⟩ := hw'
                subst hw''
                obtain ⟨w3, hw3⟩ : ∃ w3, w3 = w2.drewN nq := ⟨_, rfl⟩
                have hb3 : Below w2.heap.size w2 w3 := hw3 ▸ below_drewN w2 nq w2.heap.size
                rw [← hw3]
                clear hw3
                have d0 : w3.cell? ⟨w.heap.size + 1, 0, none⟩ = some (.slice p failed.length c) := keep_cell hb3 d0
                have v0 := keep_cell hb3 v0
                have bd := BD3.out.after hb3
                have be := BE3.out.after hb3
                have r0 : w3.cell? ⟨w.heap.size + 1 + 1, 0, none⟩ = some (.int .u8 0) := bd.cell 0
                have r1 : w3.cell? ⟨w.heap.size + 1 + 1, 1, none⟩ = some (.slice none 0 0) := bd.cell 1
                have r2 : w3.cell? ⟨w.heap.size + 1 + 1 + 1, 0, none⟩ = some (.int .i64 0) := be.cell 0
                have f0 := bd.frozen 0
                have f1 := bd.frozen 1
                have f2 := be.frozen 0
                have HST := Lib.hid (dec_store (k := 2) (e := 0) bd be (by omega) (HBW.out.trans (hb3.mono HBW.out.size)) (SlT.nil _) (FreshFrom.nil _))
                have HKP := Lib.hid (dec_keep bd be (KeepSoft.of_below hb3 (B := W1.heap.size)) (.int .u8 2) (.slice none 0 0) (.int .i64 0))
                clear hb3 bd be
                gi_wp2
                refine ⟨?_, HKP.out⟩
                rw [hfin.out]
                exact HST.out
      case done =>
        intro W hj hK
        have hfin : Hid (nextF R failed = (⟨3, []⟩, 0)) := by show _ = _; rw [hnx.out, hj.2, Nat.sub_self, nextW_end]
        have hb := hj.1
        have bd := BD2.out.after hb
        have be := BE2.out.after hb
        have r0 : W.cell? ⟨w.heap.size + 1 + 1, 0, none⟩ = some (.int .u8 0) := bd.cell 0
        have r1 : W.cell? ⟨w.heap.size + 1 + 1, 1, none⟩ = some (.slice none 0 0) := bd.cell 1
        have r2 : W.cell? ⟨w.heap.size + 1 + 1 + 1, 0, none⟩ = some (.int .i64 0) := be.cell 0
        have f0 := bd.frozen 0
        have f1 := bd.frozen 1
        have f2 := be.frozen 0
        have HST := Lib.hid (dec_store (k := 3) (e := 0) bd be (by omega) (HB2.out.trans (hb.mono HB2.out.size)) (SlT.nil _) (FreshFrom.nil _))
        have HKP := Lib.hid (dec_keep bd be (KeepSoft.refl W1.heap.size W) (.int .u8 3) (.slice none 0 0) (.int .i64 0))
        have HK := Lib.hid hK
        clear hb bd be hK hj
        go_wp2_with fail
        obtain ⟨W5, hW5⟩ : ∃ W5, W5 = ((W.setCell ⟨w.heap.size + 1 + 1, 0, none⟩ (.int .u8 3)).setCell ⟨w.heap.size + 1 + 1, 1, none⟩ (.slice none 0 0)).setCell ⟨w.heap.size + 1 + 1 + 1, 0, none⟩ (.int .i64 0) := ⟨_, rfl⟩
        have hst : DecAt w (w.heap.size + 1 + 1) (⟨3, []⟩, 0) W5 := hW5 ▸ HST.out
        have hkp : KeepSoft W1.heap.size W W5 := hW5 ▸ HKP.out
        rw [← hW5]
        clear hW5 HST HKP r0 r1 r2 f0 f1 f2
        have hK5 : W5.heap[W1.heap.size]? = some (.deferred (some [])) := (hkp.2 _ (Nat.le_refl _) (.inr ⟨_, HK.out⟩)).trans HK.out
        refine ⟨by simp, .inl ⟨_, _, rfl, run_takeDeferred hK5, ?_⟩⟩
        obtain ⟨v', b1, b2, hs', hbel⟩ := hst.soft (.inr ⟨_, hK5⟩) (by omega) (putObj_grown2 W5 W1.heap.size (.deferred none))
        obtain ⟨W6, hW6⟩ : ∃ W6, W6 = W5.putObj W1.heap.size (.deferred none) := ⟨_, rfl⟩
        rw [← hW6] at b1 b2 hs' hbel ⊢
        clear hW6
        have e0 : W6.cell? ⟨w.heap.size + 1 + 1, 0, none⟩ = some (.int .u8 3) := b1.cell 0
        have e1 : W6.cell? ⟨w.heap.size + 1 + 1, 1, none⟩ = some v' := b1.cell 1
        have e2 : W6.cell? ⟨w.heap.size + 1 + 1 + 1, 0, none⟩ = some (.int .i64 0) := b2.cell 0
        refine ⟨.tuple #[.agg #[.int .u8 3, v'], .int .i64 0], by simp [results, Try.results5, go_sem, e0, e1, e2], ?_⟩
        rw [hfin.out]
        exact ⟨v', rfl, hs', hbel⟩
      case stop =>
        rintro l r W3 W hr hx hl hs hgr hK
        have hx1 := hx.soft hs (by omega) hgr
        obtain ⟨v', b1, b2, hs', hbel⟩ := hx1.soft (.inr ⟨_, hK⟩) (by omega) (putObj_grown2 W W1.heap.size (.deferred none))
        clear hx hx1 hgr hs
        gi_wp2
        refine ⟨by simp, .inl ⟨_, _, rfl, run_takeDeferred hK, ?_⟩⟩
        obtain ⟨W6, hW6⟩ : ∃ W6, W6 = W.putObj W1.heap.size (.deferred none) := ⟨_, rfl⟩
        rw [← hW6] at b1 b2 hs' hbel ⊢
        clear hW6
        have e0 : W6.cell? ⟨w.heap.size + 1 + 1, 0, none⟩ = some (.int .u8 ((nextF R failed).1.kind : Int)) := b1.cell 0
        have e1 : W6.cell? ⟨w.heap.size + 1 + 1, 1, none⟩ = some v' := b1.cell 1
        have e2 : W6.cell? ⟨w.heap.size + 1 + 1 + 1, 0, none⟩ = some (.int .i64 (nextF R failed).2) := b2.cell 0
        refine ⟨.tuple #[.agg #[.int .u8 ((nextF R failed).1.kind : Int), v'], .int .i64 (nextF R failed).2], by simp [results, Try.results5, go_sem, e0, e1, e2], ?_⟩
        exact ⟨v', rfl, hs', hbel⟩
  · have hfin : Hid (nextF R failed = (⟨0, []⟩, 1)) := by show _ = _; unfold nextF; rw [if_neg hv]
    have HV := Lib.hid hv
    clear hv
    go_enter Try.func5, Try.ntmps5
    go_upto_region 1 with fail
    rw [← hW]
    clear hW
    go_wp2_with fail
    refine (cValid_c _ _ R HP.out).mono ?_
    intro e w1 hr
    obtain ⟨rfl, hb1⟩ := hr.no HV.out
    have bd := BD.out.after hb1
    have be := BE.out.after hb1
    have r0 : w1.cell? ⟨w.heap.size + 1 + 1, 0, none⟩ = some (.int .u8 0) := bd.cell 0
    have r1 : w1.cell? ⟨w.heap.size + 1 + 1, 1, none⟩ = some (.slice none 0 0) := bd.cell 1
    have r2 : w1.cell? ⟨w.heap.size + 1 + 1 + 1, 0, none⟩ = some (.int .i64 0) := be.cell 0
    have f0 := bd.frozen 0
    have f1 := bd.frozen 1
    have f2 := be.frozen 0
    have HST := Lib.hid (dec_store (k := 0) (e := 1) bd be (by omega) (HB0.out.trans (hb1.mono HB0.out.size)) (SlT.nil _) (FreshFrom.nil _))
    clear hr hb1 bd be
    go_wp2_with fail
    obtain ⟨W5, hW5⟩ : ∃ W5, W5 = ((w1.setCell ⟨w.heap.size + 1 + 1, 0, none⟩ (.int .u8 0)).setCell ⟨w.heap.size + 1 + 1, 1, none⟩ (.slice none 0 0)).setCell ⟨w.heap.size + 1 + 1 + 1, 0, none⟩ (.int .i64 1) := ⟨_, rfl⟩
    obtain ⟨v', b1, b2, hs', hbel⟩ : DecAt w (w.heap.size + 1 + 1) (⟨0, []⟩, 1) W5 := hW5 ▸ HST.out
    rw [← hW5]
    clear hW5 HST r0 r1 r2 f0 f1 f2
    have e0 : W5.cell? ⟨w.heap.size + 1 + 1, 0, none⟩ = some (.int .u8 0) := b1.cell 0
    have e1 : W5.cell? ⟨w.heap.size + 1 + 1, 1, none⟩ = some v' := b1.cell 1
    have e2 : W5.cell? ⟨w.heap.size + 1 + 1 + 1, 0, none⟩ = some (.int .i64 1) := b2.cell 0
    refine bodyPost_ret (v := .tuple #[.agg #[.int .u8 0, v'], .int .i64 1]) (by simp [results, Try.results5, go_sem, e0, e1, e2]) rfl ?_
    rw [hfin.out]
    exact ⟨v', rfl, hs', hbel⟩
end Go.Proofs.Ytebmegodeglobaa

namespace Go.Proofs.Ytebmegodeglobaa
open Go.RowKit

theorem step_append_in {F : Fence} {n : Nat} {P : Program} {ops : Array Oper} {o : Oper} {a : Act} {w : World} {K : Act → World → Prop} {Q : Exit → Act → World → Prop} {E : Prop}
    (hg : o.guard = none) (s x : Operand) (t : TypeId) (hop : o.op = Op.call { callee := Callee.builtin Builtin.append, args := #[s, x], argTypes := #[t, t] })
    (base : Nat) (e : TypeId) (i : TypeInfo) (z : Value) (size bytes : Nat) (h1 : P.underlying t = some (.slice e)) (h2 : P.info? e = some i) (h3 : i.zero = some z) (h4 : i.size = size) (h5 : i.bytes = bytes) (h6 : z.cells.size = size) (h7 : 0 < size)
    (v : Value) (k : Nat) (xs : List Value) (hs : a.eval s = v) (hown : w.ownsRow base e size v k xs) (ad : Addr) (m c : Nat) (news : List Value) (hx : a.eval x = .slice (some ad) m c) (hn : news.length = m * size)
    (hc : ∀ j u, news[j]? = some u → w.cell? (ad.add j) = some u) (h1c : ∀ u ∈ news, u.oneCell' = true) (b1 : k + m ≤ maxLen) (b2 : (k + m) * bytes ≤ 140737488355328) (b3 : base ≤ w.heap.size)
    (hK : ∀ v' w', w'.ownsRow base e size v' (k + m) (xs ++ news) → w.grownBy w' v.ownBlock → K (a.put o.dst v') w') :
    if Region.wanted o (yielded ops a.tmps) = true then Oper.wpIn F n P o a w K Q else E := by
  have hw : Region.wanted o (yielded ops a.tmps) = true := by simp [Region.wanted, hg]
  rw [if_pos hw]
  obtain ⟨v', w', hrun, r1, r2, r3⟩ := run_append_own (P := P) w base t o.type e i z size bytes h1 h2 h3 h4 h5 h6 h7 v k xs hown ad m c news hn hc h1c b1 b2 b3
  unfold Oper.wpIn
  refine ⟨?_, ?_⟩
  · simp [Oper.about, hop, resolve, Target.leads, Sem.run_pure]
  · rw [Oper.semAt_eq _ _ _ (by rw [hop]; intro c hc'; cases hc')]
    simp [execOp, hop, resolve, invoke, builtin, hs, hx, hrun, Result.andThen]
    exact hK v' w' r1 r2

section
open Classical
/-- The decisions from boundary r on. -/
noncomputable def runD (R : Ro) (fails : List Bool) (r : Nat) : Nat → List Dec
  | 0 => [⟨3, []⟩]
  | k + 1 => ⟨1, hostsOf R (cum R r) (cum R (r + 1))⟩ :: if GoB R (cum R (r + 1)) (failsN fails (cum R (r + 1))) then runD R fails (r + 1) k else [⟨2, []⟩]
/-- What Run returns. -/
noncomputable def runF (R : Ro) (fails : List Bool) : List Dec × Int := if ValidR R then (if fails.length = R.hosts.length then (runD R fails 0 R.waves.length, 0) else ([], 2)) else ([], 1)
end
/-- The first r waves, decided on. -/
def wavesD (R : Ro) (r : Nat) : List Dec := (List.range r).map fun j => ⟨1, hostsOf R (cum R j) (cum R (j + 1))⟩
theorem wavesD_succ (R : Ro) (r : Nat) : wavesD R (r + 1) = wavesD R r ++ [⟨1, hostsOf R (cum R r) (cum R (r + 1))⟩] := by
  unfold wavesD; rw [List.range_succ, List.map_append]; rfl
theorem runD_go {R : Ro} {fails : List Bool} {r k : Nat} (h : GoB R (cum R (r + 1)) (failsN fails (cum R (r + 1)))) : wavesD R r ++ runD R fails r (k + 1) = wavesD R (r + 1) ++ runD R fails (r + 1) k := by
  rw [wavesD_succ, runD, if_pos h]; simp
theorem runD_stop {R : Ro} {fails : List Bool} {r k : Nat} (h : ¬ GoB R (cum R (r + 1)) (failsN fails (cum R (r + 1)))) : wavesD R r ++ runD R fails r (k + 1) = wavesD R (r + 1) ++ [⟨2, []⟩] := by
  rw [wavesD_succ, runD, if_neg h]; simp
/-- So far it went on; variable O holds the decisions. -/
def RJ (R : Ro) (fails : List Bool) (W1 : World) (O r : Nat) (W : World) : Prop := OutD W1 O r (wavesD R r) W ∧ runD R fails 0 R.waves.length = wavesD R r ++ runD R fails r (R.waves.length - r)
/-- The result is a row of decisions and an error. -/
def RetDs (w : World) (r : List Dec × Int) (e : Ending) (w' : World) : Prop := ∃ v, e = .returned (.tuple #[v, .int .i64 r.2]) ∧ SlD w' v r.1 ∧ Below w.heap.size w w'
/-- The result's two variables, at D and behind it, are written. -/
def DsAt (w : World) (D : Nat) (r : List Dec × Int) (W : World) : Prop := ∃ v, Box W D #[v] 42 ∧ Box W (D + 1) #[.int .i64 r.2] 31 ∧ SlD W v r.1 ∧ Below w.heap.size w W
theorem DsAt.soft {w W W' : World} {D n : Nat} {r : List Dec × Int} (h : DsAt w D r W) (hs : Soft W n) (hn : w.heap.size ≤ n) (hg : W.grownBy W' (some n)) : DsAt w D r W' := by
  obtain ⟨v, h1, h2, h3, h4⟩ := h
  exact ⟨v, h1.soft hs hg, h2.soft hs hg, h3.soft hs hg, h4.grown hg h4.size (fun g e => by injection e with e; omega)⟩
/-- The stores of the result: an owned row of decisions and an error. -/
theorem ds_store {w W : World} {D base n : Nat} {x y u : Value} {es : List (Nat × Value)} {ds : List Dec} {e : Int} (hD : Box W D #[x] 42) (hE : Box W (D + 1) #[y] 31) (hle : w.heap.size ≤ D) (hb : Below w.heap.size w W)
    (hown : W.ownsRow base 36 2 u n (cellsD es)) (hes : EntsD W es ds) (hbase : D + 1 < base) : DsAt w D (ds, e) ((W.setCell ⟨D, 0, none⟩ u).setCell ⟨D + 1, 0, none⟩ (.int .i64 e)) := by
  have hge := ownsRow_ge hown
  have bE1 : Box (W.setCell ⟨D, 0, none⟩ u) (D + 1) #[y] 31 := hE.far (p := ⟨D, 0, none⟩) (by simp) u
  have hown1 : (W.setCell ⟨D, 0, none⟩ u).ownsRow base 36 2 u n (cellsD es) := hown.kept (grown_set W D 0 u) (by
    cases hb : u.ownBlock with
    | none => exact .inl rfl
    | some g => exact .inr (by intro e; injection e with e; have := (hge g hb).1; omega))
  have hown2 : ((W.setCell ⟨D, 0, none⟩ u).setCell ⟨D + 1, 0, none⟩ (.int .i64 e)).ownsRow base 36 2 u n (cellsD es) := hown1.kept (grown_set _ (D + 1) 0 _) (by
    cases hb : u.ownBlock with
    | none => exact .inl rfl
    | some g => exact .inr (by intro e; injection e with e; have := (hge g hb).1; omega))
  have hes2 := (hes.grown (grown_set W D 0 u) (hD.noInt (by decide))).grown (grown_set _ (D + 1) 0 (.int .i64 e)) (bE1.noInt (by decide))
  refine ⟨u, ?_, ?_, SlD.of_own hown2 hes2, (hb.setCell (p := ⟨D, 0, none⟩) hle _).setCell (p := ⟨D + 1, 0, none⟩) (Nat.le_succ_of_le hle) _⟩
  · have := (hD.set 0 u).far (p := ⟨D + 1, 0, none⟩) (by simp) (.int .i64 e)
    simpa using this
  · have := bE1.set 0 (.int .i64 e)
    simpa using this
theorem ds_keep {w2 W : World} {B D : Nat} {x y : Value} (hD : Box W D #[x] 42) (hE : Box W (D + 1) #[y] 31) (hk : KeepSoft B w2 W) (a b : Value) : KeepSoft B w2 ((W.setCell ⟨D, 0, none⟩ a).setCell ⟨D + 1, 0, none⟩ b) :=
  (hk.setCell (v := x) (hD.cell 0)).setCell (v := y) ((hE.far (p := ⟨D, 0, none⟩) (by simp) a).cell 0)
end Go.Proofs.Ytebmegodeglobaa

namespace Go.Proofs.Ytebmegodeglobaa

theorem goB_fr {R : Ro} {a b x y : Nat} (hr : R.rate = fr false a b) (hb : R.bound = fr false x y) (n k : Nat) : GoB R n k ↔ Abv n a (b - a) x y k := by
  unfold GoB
  rw [hr, hb]
  simp only [fr, val_limbs]
theorem goB_anti {R : Ro} {n i j : Nat} (h : i ≤ j) (hj : GoB R n j) : GoB R n i := abv_anti h hj
theorem mOf_is {R : Ro} {n m : Nat} (hm : m ≤ n + 1) (h1 : m = 0 ∨ GoB R n (m - 1)) (h2 : ¬ GoB R n m) : mOf R n = m := by
  refine mOf_eq hm fun k => ⟨fun h => ?_, fun h => ?_⟩
  · rcases Nat.lt_or_ge k m with hk | hk
    · exact hk
    · exact absurd (goB_anti hk h) h2
  · rcases h1 with h1 | h1
    · omega
    · exact goB_anti (by omega) h1
/-- The rollout of the chapter's examples. -/
def R0 : Ro := ⟨[4, 2, 7, 1, 0], [1, 2, 2], fr false 1 4, fr false 1 20⟩
theorem ok14 : Ok false 1 4 := small_ok (by omega) (by omega) (by omega) (by decide)
theorem ok120 : Ok false 1 20 := small_ok (by omega) (by omega) (by omega) (by decide)
theorem ok12' : Ok false 1 2 := small_ok (by omega) (by omega) (by omega) (by decide)
theorem ok732 : Ok false 7 32 := small_ok (by omega) (by omega) (by omega) (by decide)
theorem v_R0 : ValidR R0 := ⟨by decide, by decide, by decide, by decide, by decide, by decide, rateE_ok ok14 (by omega) (by omega), fracE_ok ok120 (by omega)⟩
theorem c0_R0 : cum R0 0 = 0 := rfl
theorem c1_R0 : cum R0 1 = 1 := rfl
theorem c2_R0 : cum R0 2 = 3 := rfl
theorem c3_R0 : cum R0 3 = 5 := rfl
theorem g_R0 (n k : Nat) : GoB R0 n k ↔ Abv n 1 3 1 20 k := goB_fr (a := 1) (b := 4) (x := 1) (y := 20) rfl rfl n k
theorem m1_R0 : mOf R0 1 = 2 := mOf_is (by omega) (.inr ((g_R0 _ _).2 (by simp [Abv, tl_le, tl_gt, ex, ch]))) (fun h => by have := (g_R0 _ _).1 h; simp [Abv, tl_gt] at this)
theorem m3_R0 : mOf R0 3 = 3 := mOf_is (by omega) (.inr ((g_R0 _ _).2 (by simp [Abv, tl_le, tl_gt, ex, ch]))) (fun h => by have := (g_R0 _ _).1 h; simp [Abv, tl_le, tl_gt, ex, ch] at this)
theorem m5_R0 : mOf R0 5 = 4 := mOf_is (by omega) (.inr ((g_R0 _ _).2 (by simp [Abv, tl_le, tl_gt, ex, ch]))) (fun h => by have := (g_R0 _ _).1 h; simp [Abv, tl_le, tl_gt, ex, ch] at this)
theorem go_iff {R : Ro} (h : ValidR R) {n : Nat} (hn : n ≤ 16) (k : Nat) : GoB R n k ↔ k < mOf R n := (goB_mOf h hn).2 k
theorem next1_R0 : nextF R0 [true] = (⟨1, [2, 7]⟩, 0) := by
  unfold nextF
  rw [if_pos v_R0, if_neg (by decide)]
  show nextW R0 [true] 0 3 = _
  rw [nextW, c0_R0, c1_R0, if_neg (by decide), if_neg (by decide), if_pos ((go_iff v_R0 (by omega) _).2 (by rw [m1_R0]; decide)), nextW, c1_R0, if_pos (by decide)]
  rfl
theorem next3_R0 : nextF R0 [true, true, true] = (⟨2, []⟩, 0) := by
  unfold nextF
  rw [if_pos v_R0, if_neg (by decide)]
  show nextW R0 [true, true, true] 0 3 = _
  rw [nextW, c0_R0, c1_R0, if_neg (by decide), if_neg (by decide), if_pos ((go_iff v_R0 (by omega) _).2 (by rw [m1_R0]; decide)), nextW, c1_R0, c2_R0, if_neg (by decide), if_neg (by decide),
    if_neg (fun h => by have := (go_iff v_R0 (by omega) _).1 h; rw [m3_R0] at this; revert this; decide), if_neg (by decide)]
theorem run_R0 : runF R0 [false, false, false, false, false] = ([⟨1, [4]⟩, ⟨1, [2, 7]⟩, ⟨1, [1, 0]⟩, ⟨3, []⟩], 0) := by
  unfold runF
  rw [if_pos v_R0, if_pos (by decide)]
  show (runD R0 [false, false, false, false, false] 0 3, 0) = _
  rw [runD, c0_R0, c1_R0, if_pos ((go_iff v_R0 (by omega) _).2 (by rw [m1_R0]; decide)), runD, c1_R0, c2_R0, if_pos ((go_iff v_R0 (by omega) _).2 (by rw [m3_R0]; decide)), runD, c2_R0, c3_R0, if_pos ((go_iff v_R0 (by omega) _).2 (by rw [m5_R0]; decide)), runD]
  rfl
theorem allowed_R0 : allowedF R0 = ([1, 2, 3], 0) := by
  unfold allowedF
  rw [if_pos v_R0]
  show (allowedL R0 3, 0) = _
  rw [allowedL_succ, allowedL_succ, allowedL_succ, c1_R0, c2_R0, c3_R0, m1_R0, m3_R0, m5_R0]
  rfl
theorem gS_R0 : gS R0 1 1 3 = 7 := by
  simp [gS, nN, cvA, sm, gN, wv, c0_R0, c1_R0, c2_R0, c3_R0, m1_R0, m3_R0, m5_R0, ex, ch]
theorem chance_R0 : chanceF R0 (fr false 1 2) = (fr false 7 32, 0) := by
  have hr : rateE (fr false 1 2) = 0 := rateE_ok ok12' (by omega) (by omega)
  unfold chanceF
  rw [if_neg (by rw [hr]; rintro (h | h); exact h v_R0; omega), if_pos hr]
  show (FQ (gS R0 (val (limbs 1)) (val (limbs 2) - val (limbs 1)) 3) (val (limbs 2) ^ cum R0 3), 0) = _
  rw [val_limbs, val_limbs, gS_R0, c3_R0]
  rw [show FQ 7 (2 ^ 5) = fr false 7 32 from (rep_of_ok ok732).fst]
end Go.Proofs.Ytebmegodeglobaa
