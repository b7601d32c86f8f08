/- Walks of package canary: Next.
   Walks of package canary: what Chance keeps from wave to wave, and within a wave. -/
import Derived.Test.YtjjefdkadgkhfaaK21
import Derived.Test.YtjjefdkadgkhfaaK18
import Derived.Test.YtjjefdkadgkhfaaK20
import Derived.Maps.OwnIn
import Derived.Sort.LoopGhostIn
import Derived.Sort.CutIn
set_option linter.unusedVariables false
namespace Go.Proofs.Ytjjefdkadgkhfaa
open Go.RowKit Go.Shelf
attribute [local go_sem] Oper.semAt_some wide_fn

/-- The result is a decision and an error. -/
def RetD (w : World) (r : Dec × Int) (e : Ending) (w' : World) : Prop := ∃ v, e = .returned (.tuple #[.agg #[.int .u8 (r.1.kind : Int), v], .int .i64 r.2]) ∧ SlT w' v r.1.hosts ∧ Below w.heap.size w w'
/-- The result's two variables, at D and behind it, are written. -/
def DecAt (w : World) (D : Nat) (r : Dec × Int) (W : World) : Prop := ∃ v, Box W D #[.int .u8 (r.1.kind : Int), v] 53 ∧ Box W (D + 1) #[.int .i64 r.2] 35 ∧ SlT W v r.1.hosts ∧ Below w.heap.size w W
theorem dec_store {w W : World} {D : Nat} {x0 x1 y : Value} (hD : Box W D #[x0, x1] 53) (hE : Box W (D + 1) #[y] 35) (hle : w.heap.size ≤ D) (hb : Below w.heap.size w W) {v : Value} {k : Nat} {e : Int} {l : List Int} (hs : SlT W v l) (hf : FreshFrom (D + 2) v) :
    DecAt w D (⟨k, l⟩, e) (((W.setCell ⟨D, 0, none⟩ (.int .u8 (k : Int))).setCell ⟨D, 1, none⟩ v).setCell ⟨D + 1, 0, none⟩ (.int .i64 e)) := by
  refine ⟨v, ?_, ?_, ?_, ((hb.setCell (p := ⟨D, 0, none⟩) hle _).setCell (p := ⟨D, 1, none⟩) hle _).setCell (p := ⟨D + 1, 0, none⟩) (Nat.le_succ_of_le hle) _⟩
  · have := ((hD.set 0 (.int .u8 (k : Int))).set 1 v).far (p := ⟨D + 1, 0, none⟩) (by simp) (.int .i64 e)
    simpa using this
  · have := ((hE.far (p := ⟨D, 0, none⟩) (by simp) (.int .u8 (k : Int))).far (p := ⟨D, 1, none⟩) (by simp) v).set 0 (.int .i64 e)
    simpa using this
  · exact ((hs.setLow hf (g := D) (i := 0) (by omega) _).setLow hf (g := D) (i := 1) (by omega) _).setLow hf (g := D + 1) (i := 0) (by omega) _
theorem dec_keep {w2 W : World} {B D : Nat} {x0 x1 y : Value} (hD : Box W D #[x0, x1] 53) (hE : Box W (D + 1) #[y] 35) (hk : KeepSoft B w2 W) (a b c : Value) : KeepSoft B w2 (((W.setCell ⟨D, 0, none⟩ a).setCell ⟨D, 1, none⟩ b).setCell ⟨D + 1, 0, none⟩ c) := by
  refine ((hk.setCell (v := x0) (hD.cell 0)).setCell (v := x1) ?_).setCell (v := y) ?_
  · have := (hD.set 0 a).cell 1
    simpa using this
  · exact ((hE.far (p := ⟨D, 0, none⟩) (by simp) a).far (p := ⟨D, 1, none⟩) (by simp) b).cell 0
theorem DecAt.soft {w W W' : World} {D n : Nat} {r : Dec × Int} (h : DecAt w D r W) (hs : Soft W n) (hn : w.heap.size ≤ n) (hg : W.grownBy W' (some n)) : DecAt w D r W' := by
  obtain ⟨v, h1, h2, h3, h4⟩ := h
  exact ⟨v, h1.soft hs hg, h2.soft hs hg, h3.soft hs hg, h4.grown hg h4.size (fun g e => by injection e with e; omega)⟩
section
variable {R : Ro} {failed : List Bool} {r k : Nat}
theorem nextW_end : nextW R failed r 0 = (⟨3, []⟩, 0) := rfl
theorem nextW_wave (h : failed.length = cum R r) : nextW R failed r (k + 1) = (⟨1, hostsOf R (cum R r) (cum R (r + 1))⟩, 0) := by rw [nextW, if_pos h]
theorem nextW_early (h : failed.length ≠ cum R r) (h2 : failed.length < cum R (r + 1)) : nextW R failed r (k + 1) = (⟨0, []⟩, 8) := by rw [nextW, if_neg h, if_pos h2]
theorem nextW_go (h : failed.length ≠ cum R r) (h2 : ¬ failed.length < cum R (r + 1)) (h3 : GoB R (cum R (r + 1)) (failsN failed (cum R (r + 1)))) : nextW R failed r (k + 1) = nextW R failed (r + 1) k := by rw [nextW, if_neg h, if_neg h2, if_pos h3]
theorem nextW_late (h : failed.length ≠ cum R r) (h2 : ¬ failed.length < cum R (r + 1)) (h3 : ¬ GoB R (cum R (r + 1)) (failsN failed (cum R (r + 1)))) (h4 : cum R (r + 1) < failed.length) : nextW R failed r (k + 1) = (⟨0, []⟩, 8) := by
  rw [nextW, if_neg h, if_neg h2, if_neg h3, if_pos h4]
theorem nextW_stop (h : failed.length ≠ cum R r) (h2 : ¬ failed.length < cum R (r + 1)) (h3 : ¬ GoB R (cum R (r + 1)) (failsN failed (cum R (r + 1)))) (h4 : ¬ cum R (r + 1) < failed.length) : nextW R failed r (k + 1) = (⟨2, []⟩, 0) := by
  rw [nextW, if_neg h, if_neg h2, if_neg h3, if_neg h4]
end
/-- So far it went on, and memory is as it was. -/
def NJ (R : Ro) (failed : List Bool) (W1 : World) (r : Nat) (W : World) : Prop := Below W1.heap.size W1 W ∧ nextW R failed 0 R.waves.length = nextW R failed r (R.waves.length - r)
/-- What a round's assignment leaves: the boundary in a variable of its own. -/
def AsB (R : Ro) (F : Nat → Nat → Option Addr → Nat → World → Act) (r : Nat) (args : Array Value) (a1 : Act) (W w1 : World) : Prop :=
  ∃ (m : Nat) (a : Option Addr) (c : Nat), (m ≤ cum R (r + 1) + 1 ∧ (∀ k : Nat, GoB R (cum R (r + 1)) k ↔ k < m) ∧ SlI W (.slice a (hostsOf R (cum R r) (cum R (r + 1))).length c) (hostsOf R (cum R r) (cum R (r + 1)))) ∧
    w1 = W.alloc (.cells #[.int .i64 ((cum R (r + 1) : Nat) : Int), .int .i64 ((m : Int) - 1), .slice a (hostsOf R (cum R r) (cum R (r + 1))).length c] 77) ∧ a1 = F r m a c W
theorem AsB.mk {R : Ro} {F : Nat → Nat → Option Addr → Nat → World → Act} {r m : Nat} {a : Option Addr} {c : Nat} {args : Array Value} {W : World} (h : m ≤ cum R (r + 1) + 1 ∧ (∀ k : Nat, GoB R (cum R (r + 1)) k ↔ k < m) ∧ SlI W (.slice a (hostsOf R (cum R r) (cum R (r + 1))).length c) (hostsOf R (cum R r) (cum R (r + 1)))) :
    AsB R F r args (F r m a c W) W (W.alloc (.cells #[.int .i64 ((cum R (r + 1) : Nat) : Int), .int .i64 ((m : Int) - 1), .slice a (hostsOf R (cum R r) (cum R (r + 1))).length c] 77)) := ⟨m, a, c, h, rfl, rfl⟩
theorem failures_in (l : Nat) (w : World) (v : Value) (bs : List Bool) (h : SlB w v bs) : CallsIn (Fence.wide.inRound l) 3 Try.prog 40 #[v] w fun e w' => e = .returned (.int .i64 ((bs.count true : Nat) : Int)) ∧ w' = w :=
  CallsIn.inRound l (callsIn_wide.2 (failures_c w v bs h))

set_option maxRecDepth 100000 in
set_option maxHeartbeats 4000000 in
theorem Next_c (w : World) (v u : Value) (R : Ro) (failed : List Bool) (h : IsR w v R) (k : SlB w u failed) : Calls Try.prog 21 #[v, u] w (RetD w (nextF R failed)) := by
  have HX := h
  have HY := k
  obtain ⟨p0, p1, p2, p3, p4, p5, k0, k1, k2, k3, k4, k5, rfl, h0, h1, h2, h3⟩ := h.open
  obtain ⟨p, c, rfl, hc1, hc2, _⟩ := k.shape
  obtain ⟨W0, hW, bP, bF, bD, bE, hsz, hb0⟩ : ∃ W0, W0 = (((w.alloc (.cells #[.slice p0 R.hosts.length k0, .slice p1 R.waves.length k1, .bool R.rate.neg, .slice p2 R.rate.num.length k2, .slice p3 R.rate.den.length k3, .bool R.bound.neg, .slice p4 R.bound.num.length k4, .slice p5 R.bound.den.length k5] 32)).alloc (.cells #[.slice p failed.length c] 44)).alloc (.cells #[.int .u8 0, .slice none 0 0] 53)).alloc (.cells #[.int .i64 0] 35) ∧
      Box W0 w.heap.size #[.slice p0 R.hosts.length k0, .slice p1 R.waves.length k1, .bool R.rate.neg, .slice p2 R.rate.num.length k2, .slice p3 R.rate.den.length k3, .bool R.bound.neg, .slice p4 R.bound.num.length k4, .slice p5 R.bound.den.length k5] 32 ∧ Box W0 (w.heap.size + 1) #[.slice p failed.length c] 44 ∧ Box W0 (w.heap.size + 1 + 1) #[.int .u8 0, .slice none 0 0] 53 ∧ Box W0 (w.heap.size + 1 + 1 + 1) #[.int .i64 0] 35 ∧ W0.heap.size = w.heap.size + 4 ∧ Below w.heap.size w W0 :=
    ⟨_, rfl, fourA rfl, fourB rfl, fourC rfl, fourD rfl, by simp, held_alloc (held_alloc (held_alloc (held_alloc (Below.refl _ w))))⟩
  obtain ⟨c0, c1, c2, c3, c4, c5, c6, c7⟩ := bP.cells8
  have d0 : W0.cell? ⟨w.heap.size + 1, 0, none⟩ = some (.slice p failed.length c) := bF.cell 0
  have HP := Lib.hid (HX.after hb0)
  have HF := Lib.hid (HY.after hb0)
  have HB0 := Lib.hid hb0
  have BP := Lib.hid bP
  have BF := Lib.hid bF
  have BD := Lib.hid bD
  have BE := Lib.hid bE
  obtain ⟨_, ch, eh, mh1, mh2, _⟩ := h0.shape
  have hhl : R.hosts.length ≤ 9223372036854775807 := by omega
  have HSZ := Lib.hid hsz
  clear HX HY h k h0 h1 h2 h3 bP bF bD bE hb0 eh mh1 mh2 hsz
  by_cases hv : ValidR R
  · have HV := Lib.hid hv
    clear hv
    by_cases hl : R.hosts.length < failed.length
    · have hfin : Hid (nextF R failed = (⟨0, []⟩, 2)) := by show _ = _; unfold nextF; rw [if_pos HV.out, if_pos hl]
      go_enter Try.func21, Try.ntmps21
      go_upto_region 1 with fail
      rw [← hW]
      clear hW
      go_wp2_with fail
      refine (cValid_c _ _ R HP.out).mono ?_
      intro e w1 hr
      obtain ⟨rfl, hb1⟩ := hr.yes HV.out
      obtain ⟨c0, c1, c2, c3, c4, c5, c6, c7⟩ := (BP.out.after hb1).cells8
      have d0 : w1.cell? ⟨w.heap.size + 1, 0, none⟩ = some (.slice p failed.length c) := (BF.out.after hb1).cell 0
      have bd := BD.out.after hb1
      have be := BE.out.after hb1
      have r0 : w1.cell? ⟨w.heap.size + 1 + 1, 0, none⟩ = some (.int .u8 0) := bd.cell 0
      have r1 : w1.cell? ⟨w.heap.size + 1 + 1, 1, none⟩ = some (.slice none 0 0) := bd.cell 1
      have r2 : w1.cell? ⟨w.heap.size + 1 + 1 + 1, 0, none⟩ = some (.int .i64 0) := be.cell 0
      have f0 := bd.frozen 0
      have f1 := bd.frozen 1
      have f2 := be.frozen 0
      have HST := Lib.hid (dec_store (k := 0) (e := 2) bd be (by omega) (HB0.out.trans (hb1.mono HB0.out.size)) (SlT.nil _) (FreshFrom.nil _))
      clear hr hb1 bd be
      go_wp2_with fail
      obtain ⟨W5, hW5⟩ : ∃ W5, W5 = ((w1.setCell ⟨w.heap.size + 1 + 1, 0, none⟩ (.int .u8 0)).setCell ⟨w.heap.size + 1 + 1, 1, none⟩ (.slice none 0 0)).setCell ⟨w.heap.size + 1 + 1 + 1, 0, none⟩ (.int .i64 2) := ⟨_, rfl⟩
      obtain ⟨v', b1, b2, hs', hbel⟩ : DecAt w (w.heap.size + 1 + 1) (⟨0, []⟩, 2) W5 := hW5 ▸ HST.out
      rw [← hW5]
      clear hW5 HST r0 r1 r2 f0 f1 f2
      have e0 : W5.cell? ⟨w.heap.size + 1 + 1, 0, none⟩ = some (.int .u8 0) := b1.cell 0
      have e1 : W5.cell? ⟨w.heap.size + 1 + 1, 1, none⟩ = some v' := b1.cell 1
      have e2 : W5.cell? ⟨w.heap.size + 1 + 1 + 1, 0, none⟩ = some (.int .i64 2) := b2.cell 0
      refine bodyPost_ret (v := .tuple #[.agg #[.int .u8 0, v'], .int .i64 2]) (by simp [results, Try.results21, go_sem, e0, e1, e2]) rfl ?_
      rw [hfin.out]
      exact ⟨v', rfl, hs', hbel⟩
    · have hlen : failed.length ≤ R.hosts.length := Nat.le_of_not_lt hl
      have h16 : R.hosts.length ≤ 16 := HV.out.2.1
      have hnx : Hid (nextF R failed = nextW R failed 0 R.waves.length) := by show _ = _; unfold nextF; rw [if_pos HV.out, if_neg hl]
      clear hl
      refine callsIn_wide (n := 6).1 (callsIn_of_wp_marks Try.func21 rfl trivial (wpIn_wide.2 ?_) rfl)
      simp only [Try.ntmps21, List.size_toArray, List.length_cons, List.length_nil, Nat.reduceAdd, Nat.reduceSub, Array.replicate_succ, Array.replicate_zero, List.push_toArray, List.append_toArray, List.nil_append, List.cons_append]
      go_upto_region 1 with fail
      rw [← hW]
      clear hW
      go_wp2_with fail
      refine (cValid_c _ _ R HP.out).mono ?_
      intro e w1 hr
      obtain ⟨rfl, hb1⟩ := hr.yes HV.out
      obtain ⟨c0, c1, c2, c3, c4, c5, c6, c7⟩ := (BP.out.after hb1).cells8
      have d0 : w1.cell? ⟨w.heap.size + 1, 0, none⟩ = some (.slice p failed.length c) := (BF.out.after hb1).cell 0
      have HP1 := Lib.hid (HP.out.after hb1)
      have HF1 := Lib.hid (HF.out.after hb1)
      have BF1 := Lib.hid (BF.out.after hb1)
      have BD1 := Lib.hid (BD.out.after hb1)
      have BE1 := Lib.hid (BE.out.after hb1)
      have HB1 := Lib.hid (HB0.out.trans (hb1.mono HB0.out.size))
      have hs1 := HB1.out.size
      have hlt1 := (BE.out.after hb1).lt
      clear hr hb1 HP HF BP BF BD BE
      go_wp2_with fail
      refine (bounds_t _ p0 p1 p2 p3 p4 p5 R.hosts.length R.waves.length R.rate.num.length R.rate.den.length R.bound.num.length R.bound.den.length k0 k1 k2 k3 k4 k5 R.rate.neg R.bound.neg).mono ?_
      rintro e w' ⟨rfl, rfl⟩
      obtain ⟨W1, hW1⟩ : ∃ W1, W1 = w1.alloc (.cells #[.slice p0 R.hosts.length k0, .slice p1 R.waves.length k1, .bool R.rate.neg, .slice p2 R.rate.num.length k2, .slice p3 R.rate.den.length k3, .bool R.bound.neg, .slice p4 R.bound.num.length k4, .slice p5 R.bound.den.length k5] 32) := ⟨_, rfl⟩
      have hb2 : Below w1.heap.size w1 W1 := hW1 ▸ held_alloc (Below.refl _ w1)
      have bx : Box W1 w1.heap.size (roCells R p0 p1 p2 p3 p4 p5 k0 k1 k2 k3 k4 k5) 32 := hW1 ▸ Box.new w1 _ _
      have IR : Hid (IsR W1 (.agg (roCells R p0 p1 p2 p3 p4 p5 k0 k1 k2 k3 k4 k5)) R) := HP1.out.after hb2
      have BX := Lib.hid bx
      have HF2 := Lib.hid (HF1.out.after hb2)
      have BF2 := Lib.hid (BF1.out.after hb2)
      have BD2 := Lib.hid (BD1.out.after hb2)
      have BE2 := Lib.hid (BE1.out.after hb2)
      have HB2 := Lib.hid (HB1.out.trans (hb2.mono HB1.out.size))
      have hlt2 := bx.lt
      rw [← hW1]
      clear hW1 hb2 bx c0 c1 c2 c3 c4 c5 c6 c7 d0 HP1 HF1 BF1 BD1 BE1 HB1
      go_wp2_with fail
      refine' (wpIn_wide (n := 6)).1 (wpIn_range_inv (n := 6) rfl (by omega) (gf := 54) (lb := #[.pointer (some ⟨w1.heap.size, 0, none⟩)]) rfl trivial (enters_of Try.func54 (by kernel_rfl) rfl) R.waves.length (NJ R failed W1) (BndV R) (fun _ => DecAt w (w.heap.size + 1 + 1) (nextF R failed))
        (by rintro r args W ⟨m, a, c, rfl, _⟩; rfl) (fun r W h => h.1.size) (fun r W W' h hb => ⟨h.1.trans (hb.mono h.1.size), h.2⟩) (fun r W W' l hl h hs hg => ⟨h.1.grown hg h.1.size (fun g e => by injection e with e; omega), h.2⟩) ⟨Below.refl _ _, rfl⟩
        (fun l W2 J' Y hJJ hJb hJ0 hYY => callsIn_wide.2 (bounds1_t l (6 - 1 - 1) W2 w1.heap.size R p0 p1 p2 p3 p4 p5 k0 k1 k2 k3 k4 k5 HV.out J' Y (fun r W h => ⟨BX.out.after (hJJ r W h).1, IR.out.after (hJJ r W h).1⟩) hJb hJ0 hYY))
        (AsB R _) ?hA ?assign ?body ?done ?stop)
      case hA =>
        rintro r args a1 W w1 ⟨m, a, c, _, rfl, _⟩
        exact held_alloc (Below.refl _ W)
      case assign =>
        intro l r args W K hr hj hv hK
        obtain ⟨m, a, c, rfl, hm⟩ := hv
        have HM := Lib.hid hm
        clear hm hj
        gi_wp2
        exact AsB.mk HM.out
      case body =>
        rintro l r args W wA w2 a1 hr hj hv ⟨m, a, c', ⟨hm, hg, hsl⟩, rfl, rfl⟩ hj2 hsf hlW hgr
        obtain ⟨k, hk⟩ : ∃ k, R.waves.length - r = k + 1 := ⟨R.waves.length - r - 1, by omega⟩
        have hnext : Hid (nextF R failed = nextW R failed r (k + 1)) := by show _ = _; rw [hnx.out, hj2.2, hk]
        have hk' : R.waves.length - (r + 1) = k := by omega
        have HK' := Lib.hid hk'
        have HKK := Lib.hid hk
        have hb2 := hj2.1
        obtain ⟨s1, s2, s3⟩ := cum_succ HV.out hr
        have s4 := cum_le HV.out (r + 1)
        have hL := hostsOf_len HV.out hr
        have l1 : cum R r + (hostsOf R (cum R r) (cum R (r + 1))).length ≤ cum R (r + 1) := by omega
        have l2 : cum R (r + 1) ≤ cum R r + (hostsOf R (cum R r) (cum R (r + 1))).length := by omega
        obtain ⟨v0, v1, v2⟩ := ((Box.new W #[.int .i64 ((cum R (r + 1) : Nat) : Int), .int .i64 ((m : Int) - 1), .slice a (hostsOf R (cum R r) (cum R (r + 1))).length c'] 77).soft hsf hgr).cells3
        have d0 : w2.cell? ⟨w.heap.size + 1, 0, none⟩ = some (.slice p failed.length c) := (BF2.out.after hb2).cell 0
        have HSL : Hid (SlI w2 (.slice a (hostsOf R (cum R r) (cum R (r + 1))).length c') (hostsOf R (cum R r) (cum R (r + 1)))) := (hsl.alloc _).soft hsf hgr
        have HFA := Lib.hid (HF2.out.after hb2)
        have bd := BD2.out.after hb2
        have be := BE2.out.after hb2
        have r0 : w2.cell? ⟨w.heap.size + 1 + 1, 0, none⟩ = some (.int .u8 0) := bd.cell 0
        have r1 : w2.cell? ⟨w.heap.size + 1 + 1, 1, none⟩ = some (.slice none 0 0) := bd.cell 1
        have r2 : w2.cell? ⟨w.heap.size + 1 + 1 + 1, 0, none⟩ = some (.int .i64 0) := be.cell 0
        have f0 := bd.frozen 0
        have f1 := bd.frozen 1
        have f2 := be.frozen 0
        have hlt3 := be.lt
        have BD3 := Lib.hid bd
        have BE3 := Lib.hid be
        have HBL := Lib.hid hb2
        have HBW := Lib.hid (HB2.out.trans (hb2.mono HB2.out.size))
        have HJ := Lib.hid hj2
        have HG := Lib.hid hg
        have hcl : (failed.take (cum R (r + 1))).count true ≤ cum R (r + 1) := count_take_le _ _
        clear hj hv hj2 hsf hgr hg hsl hb2 bd be hk hk' hL s1 s3
        by_cases q1 : failed.length = cum R r
        · have hfin : Hid (nextF R failed = (⟨1, hostsOf R (cum R r) (cum R (r + 1))⟩, 0)) := by show _ = _; rw [hnext.out, nextW_wave q1]
          have hb1 : ((failed.length : Int) == ((cum R (r + 1) : Nat) : Int) - (((hostsOf R (cum R r) (cum R (r + 1))).length : Nat) : Int)) = true := by rw [beq_iff_eq]; omega
          clear q1
          gi_wp2
          refine (CallsIn.inRound l (callsIn_wide.2 (clone_t w2 _ _ HSL.out (by omega)))).mono ?_
          rintro e w3 ⟨v3, rfl, hv3, hf3, hb3⟩
          obtain ⟨a3, c3, rfl⟩ := hv3.shape
          have bd := BD3.out.after hb3
          have be := BE3.out.after hb3
          have r0 : w3.cell? ⟨w.heap.size + 1 + 1, 0, none⟩ = some (.int .u8 0) := bd.cell 0
          have r1 : w3.cell? ⟨w.heap.size + 1 + 1, 1, none⟩ = some (.slice none 0 0) := bd.cell 1
          have r2 : w3.cell? ⟨w.heap.size + 1 + 1 + 1, 0, none⟩ = some (.int .i64 0) := be.cell 0
          have f0 := bd.frozen 0
          have f1 := bd.frozen 1
          have f2 := be.frozen 0
          have HST := Lib.hid (dec_store (k := 1) (e := 0) bd be (by omega) (HBW.out.trans (hb3.mono HBW.out.size)) hv3 (fun x n c e => Nat.le_trans (by omega) (hf3 x n c e)))
          have HKP := Lib.hid (dec_keep bd be (KeepSoft.of_below hb3 (B := W1.heap.size)) (.int .u8 1) (.slice a3 (hostsOf R (cum R r) (cum R (r + 1))).length c3) (.int .i64 0))
          clear hv3 hf3 hb3 bd be
          gi_wp2
          refine ⟨?_, HKP.out⟩
          rw [hfin.out]
          exact HST.out
        · have hb1 : ((failed.length : Int) == ((cum R (r + 1) : Nat) : Int) - (((hostsOf R (cum R r) (cum R (r + 1))).length : Nat) : Int)) = false := by rw [beq_eq_false_iff_ne]; omega
          by_cases q2 : failed.length < cum R (r + 1)
          · have hfin : Hid (nextF R failed = (⟨0, []⟩, 8)) := by show _ = _; rw [hnext.out, nextW_early q1 q2]
            have HST := Lib.hid (dec_store (k := 0) (e := 8) BD3.out BE3.out (by omega) HBW.out (SlT.nil _) (FreshFrom.nil _))
            have HKP := Lib.hid (dec_keep BD3.out BE3.out (KeepSoft.refl W1.heap.size w2) (.int .u8 0) (.slice none 0 0) (.int .i64 8))
            clear q1
            gi_wp2
            refine ⟨?_, HKP.out⟩
            rw [hfin.out]
            exact HST.out
          · by_cases q3 : GoB R (cum R (r + 1)) (failsN failed (cum R (r + 1)))
            · have hfin : Hid (nextW R failed r (k + 1) = nextW R failed (r + 1) k) := nextW_go q1 q2 q3
              have hcm : (failed.take (cum R (r + 1))).count true < m := (HG.out _).1 q3
              clear q1 q3
              gi_wp2
              refine wpIn_quiet_round (by kernel_rfl) (by kernel_rfl) (by kernel_rfl) ?_
              repeat (gi_big_quiet_step ((gi_at_call 40; exact CallsIn.quiet_of_same (CallsIn.inRound l (callsIn_wide.2 (failures_c _ _ _ (HFA.out.front _ (by omega))))))))
              refine wpQuietIn_nil ?_
              intro _ hw'
              obtain ⟨nq, hw''⟩ := hw'
              subst hw''
              have hbn := below_drewN w2 nq w2.heap.size
              have HNJ : Hid (NJ R failed W1 (r + 1) (w2.drewN nq)) := ⟨HBL.out.trans (hbn.mono HBL.out.size), by rw [HJ.out.2, HKK.out, hfin.out, HK'.out]⟩
              have HKS : Hid (KeepSoft W1.heap.size w2 (w2.drewN nq)) := KeepSoft.of_below hbn
              clear hbn
              gi_wp2
              exact ⟨HNJ.out, HKS.out⟩
            · have hcm : m ≤ (failed.take (cum R (r + 1))).count true := Nat.le_of_not_lt (fun h => q3 ((HG.out _).2 h))
              by_cases q4 : cum R (r + 1) < failed.length
              · have hfin : Hid (nextF R failed = (⟨0, []⟩, 8)) := by show _ = _; rw [hnext.out, nextW_late q1 q2 q3 q4]
                clear q1 q3
                gi_wp2
                refine wpIn_quiet_round (by kernel_rfl) (by kernel_rfl) (by kernel_rfl) ?_
                repeat (gi_big_quiet_step ((gi_at_call 40; exact CallsIn.quiet_of_same (CallsIn.inRound l (callsIn_wide.2 (failures_c _ _ _ (HFA.out.front _ (by omega))))))))
                refine wpQuietIn_nil ?_
                intro _ hw'
                obtain ⟨nq, hw''⟩ := hw'
                subst hw''
                obtain ⟨w3, hw3⟩ : ∃ w3, w3 = w2.drewN nq := ⟨_, rfl⟩
                have hb3 : Below w2.heap.size w2 w3 := hw3 ▸ below_drewN w2 nq w2.heap.size
                rw [← hw3]
                clear hw3
                have d0 : w3.cell? ⟨w.heap.size + 1, 0, none⟩ = some (.slice p failed.length c) := keep_cell hb3 d0
                have v0 := keep_cell hb3 v0
                have bd := BD3.out.after hb3
                have be := BE3.out.after hb3
                have r0 : w3.cell? ⟨w.heap.size + 1 + 1, 0, none⟩ = some (.int .u8 0) := bd.cell 0
                have r1 : w3.cell? ⟨w.heap.size + 1 + 1, 1, none⟩ = some (.slice none 0 0) := bd.cell 1
                have r2 : w3.cell? ⟨w.heap.size + 1 + 1 + 1, 0, none⟩ = some (.int .i64 0) := be.cell 0
                have f0 := bd.frozen 0
                have f1 := bd.frozen 1
                have f2 := be.frozen 0
                have HST := Lib.hid (dec_store (k := 0) (e := 8) bd be (by omega) (HBW.out.trans (hb3.mono HBW.out.size)) (SlT.nil _) (FreshFrom.nil _))
                have HKP := Lib.hid (dec_keep bd be (KeepSoft.of_below hb3 (B := W1.heap.size)) (.int .u8 0) (.slice none 0 0) (.int .i64 8))
                clear hb3 bd be
                gi_wp2
                refine ⟨?_, HKP.out⟩
                rw [hfin.out]
                exact HST.out
              · have hfin : Hid (nextF R failed = (⟨2, []⟩, 0)) := by show _ = _; rw [hnext.out, nextW_stop q1 q2 q3 q4]
                clear q1 q3
                gi_wp2
                refine wpIn_quiet_round (by kernel_rfl) (by kernel_rfl) (by kernel_rfl) ?_
                repeat (gi_big_quiet_step ((gi_at_call 40; exact CallsIn.quiet_of_same (CallsIn.inRound l (callsIn_wide.2 (failures_c _ _ _ (HFA.out.front _ (by omega))))))))
                refine wpQuietIn_nil ?_
                intro _ hw'
                obtain ⟨nq, hw''⟩ := hw'
                subst hw''
                obtain ⟨w3, hw3⟩ : ∃ w3, w3 = w2.drewN nq := ⟨_, rfl⟩
                have hb3 : Below w2.heap.size w2 w3 := hw3 ▸ below_drewN w2 nq w2.heap.size
                rw [← hw3]
                clear hw3
                have d0 : w3.cell? ⟨w.heap.size + 1, 0, none⟩ = some (.slice p failed.length c) := keep_cell hb3 d0
                have v0 := keep_cell hb3 v0
                have bd := BD3.out.after hb3
                have be := BE3.out.after hb3
                have r0 : w3.cell? ⟨w.heap.size + 1 + 1, 0, none⟩ = some (.int .u8 0) := bd.cell 0
                have r1 : w3.cell? ⟨w.heap.size + 1 + 1, 1, none⟩ = some (.slice none 0 0) := bd.cell 1
                have r2 : w3.cell? ⟨w.heap.size + 1 + 1 + 1, 0, none⟩ = some (.int .i64 0) := be.cell 0
                have f0 := bd.frozen 0
                have f1 := bd.frozen 1
                have f2 := be.frozen 0
                have HST := Lib.hid (dec_store (k := 2) (e := 0) bd be (by omega) (HBW.out.trans (hb3.mono HBW.out.size)) (SlT.nil _) (FreshFrom.nil _))
                have HKP := Lib.hid (dec_keep bd be (KeepSoft.of_below hb3 (B := W1.heap.size)) (.int .u8 2) (.slice none 0 0) (.int .i64 0))
                clear hb3 bd be
                gi_wp2
                refine ⟨?_, HKP.out⟩
                rw [hfin.out]
                exact HST.out
      case done =>
        intro W hj hK
        have hfin : Hid (nextF R failed = (⟨3, []⟩, 0)) := by show _ = _; rw [hnx.out, hj.2, Nat.sub_self, nextW_end]
        have hb := hj.1
        have bd := BD2.out.after hb
        have be := BE2.out.after hb
        have r0 : W.cell? ⟨w.heap.size + 1 + 1, 0, none⟩ = some (.int .u8 0) := bd.cell 0
        have r1 : W.cell? ⟨w.heap.size + 1 + 1, 1, none⟩ = some (.slice none 0 0) := bd.cell 1
        have r2 : W.cell? ⟨w.heap.size + 1 + 1 + 1, 0, none⟩ = some (.int .i64 0) := be.cell 0
        have f0 := bd.frozen 0
        have f1 := bd.frozen 1
        have f2 := be.frozen 0
        have HST := Lib.hid (dec_store (k := 3) (e := 0) bd be (by omega) (HB2.out.trans (hb.mono HB2.out.size)) (SlT.nil _) (FreshFrom.nil _))
        have HKP := Lib.hid (dec_keep bd be (KeepSoft.refl W1.heap.size W) (.int .u8 3) (.slice none 0 0) (.int .i64 0))
        have HK := Lib.hid hK
        clear hb bd be hK hj
        go_wp2_with fail
        obtain ⟨W5, hW5⟩ : ∃ W5, W5 = ((W.setCell ⟨w.heap.size + 1 + 1, 0, none⟩ (.int .u8 3)).setCell ⟨w.heap.size + 1 + 1, 1, none⟩ (.slice none 0 0)).setCell ⟨w.heap.size + 1 + 1 + 1, 0, none⟩ (.int .i64 0) := ⟨_, rfl⟩
        have hst : DecAt w (w.heap.size + 1 + 1) (⟨3, []⟩, 0) W5 := hW5 ▸ HST.out
        have hkp : KeepSoft W1.heap.size W W5 := hW5 ▸ HKP.out
        rw [← hW5]
        clear hW5 HST HKP r0 r1 r2 f0 f1 f2
        have hK5 : W5.heap[W1.heap.size]? = some (.deferred (some [])) := (hkp.2 _ (Nat.le_refl _) (.inr ⟨_, HK.out⟩)).trans HK.out
        refine ⟨by simp, .inl ⟨_, _, rfl, run_takeDeferred hK5, ?_⟩⟩
        obtain ⟨v', b1, b2, hs', hbel⟩ := hst.soft (.inr ⟨_, hK5⟩) (by omega) (putObj_grown2 W5 W1.heap.size (.deferred none))
        obtain ⟨W6, hW6⟩ : ∃ W6, W6 = W5.putObj W1.heap.size (.deferred none) := ⟨_, rfl⟩
        rw [← hW6] at b1 b2 hs' hbel ⊢
        clear hW6
        have e0 : W6.cell? ⟨w.heap.size + 1 + 1, 0, none⟩ = some (.int .u8 3) := b1.cell 0
        have e1 : W6.cell? ⟨w.heap.size + 1 + 1, 1, none⟩ = some v' := b1.cell 1
        have e2 : W6.cell? ⟨w.heap.size + 1 + 1 + 1, 0, none⟩ = some (.int .i64 0) := b2.cell 0
        refine ⟨.tuple #[.agg #[.int .u8 3, v'], .int .i64 0], by simp [results, Try.results21, go_sem, e0, e1, e2], ?_⟩
        rw [hfin.out]
        exact ⟨v', rfl, hs', hbel⟩
      case stop =>
        rintro l r W3 W hr hx hl hs hgr hK
        have hx1 := hx.soft hs (by omega) hgr
        obtain ⟨v', b1, b2, hs', hbel⟩ := hx1.soft (.inr ⟨_, hK⟩) (by omega) (putObj_grown2 W W1.heap.size (.deferred none))
        clear hx hx1 hgr hs
        gi_wp2
        refine ⟨by simp, .inl ⟨_, _, rfl, run_takeDeferred hK, ?_⟩⟩
        obtain ⟨W6, hW6⟩ : ∃ W6, W6 = W.putObj W1.heap.size (.deferred none) := ⟨_, rfl⟩
        rw [← hW6] at b1 b2 hs' hbel ⊢
        clear hW6
        have e0 : W6.cell? ⟨w.heap.size + 1 + 1, 0, none⟩ = some (.int .u8 ((nextF R failed).1.kind : Int)) := b1.cell 0
        have e1 : W6.cell? ⟨w.heap.size + 1 + 1, 1, none⟩ = some v' := b1.cell 1
        have e2 : W6.cell? ⟨w.heap.size + 1 + 1 + 1, 0, none⟩ = some (.int .i64 (nextF R failed).2) := b2.cell 0
        refine ⟨.tuple #[.agg #[.int .u8 ((nextF R failed).1.kind : Int), v'], .int .i64 (nextF R failed).2], by simp [results, Try.results21, go_sem, e0, e1, e2], ?_⟩
        exact ⟨v', rfl, hs', hbel⟩
  · have hfin : Hid (nextF R failed = (⟨0, []⟩, 1)) := by show _ = _; unfold nextF; rw [if_neg hv]
    have HV := Lib.hid hv
    clear hv
    go_enter Try.func21, Try.ntmps21
    go_upto_region 1 with fail
    rw [← hW]
    clear hW
    go_wp2_with fail
    refine (cValid_c _ _ R HP.out).mono ?_
    intro e w1 hr
    obtain ⟨rfl, hb1⟩ := hr.no HV.out
    have bd := BD.out.after hb1
    have be := BE.out.after hb1
    have r0 : w1.cell? ⟨w.heap.size + 1 + 1, 0, none⟩ = some (.int .u8 0) := bd.cell 0
    have r1 : w1.cell? ⟨w.heap.size + 1 + 1, 1, none⟩ = some (.slice none 0 0) := bd.cell 1
    have r2 : w1.cell? ⟨w.heap.size + 1 + 1 + 1, 0, none⟩ = some (.int .i64 0) := be.cell 0
    have f0 := bd.frozen 0
    have f1 := bd.frozen 1
    have f2 := be.frozen 0
    have HST := Lib.hid (dec_store (k := 0) (e := 1) bd be (by omega) (HB0.out.trans (hb1.mono HB0.out.size)) (SlT.nil _) (FreshFrom.nil _))
    clear hr hb1 bd be
    go_wp2_with fail
    obtain ⟨W5, hW5⟩ : ∃ W5, W5 = ((w1.setCell ⟨w.heap.size + 1 + 1, 0, none⟩ (.int .u8 0)).setCell ⟨w.heap.size + 1 + 1, 1, none⟩ (.slice none 0 0)).setCell ⟨w.heap.size + 1 + 1 + 1, 0, none⟩ (.int .i64 1) := ⟨_, rfl⟩
    obtain ⟨v', b1, b2, hs', hbel⟩ : DecAt w (w.heap.size + 1 + 1) (⟨0, []⟩, 1) W5 := hW5 ▸ HST.out
    rw [← hW5]
    clear hW5 HST r0 r1 r2 f0 f1 f2
    have e0 : W5.cell? ⟨w.heap.size + 1 + 1, 0, none⟩ = some (.int .u8 0) := b1.cell 0
    have e1 : W5.cell? ⟨w.heap.size + 1 + 1, 1, none⟩ = some v' := b1.cell 1
    have e2 : W5.cell? ⟨w.heap.size + 1 + 1 + 1, 0, none⟩ = some (.int .i64 1) := b2.cell 0
    refine bodyPost_ret (v := .tuple #[.agg #[.int .u8 0, v'], .int .i64 1]) (by simp [results, Try.results21, go_sem, e0, e1, e2]) rfl ?_
    rw [hfin.out]
    exact ⟨v', rfl, hs', hbel⟩
end Go.Proofs.Ytjjefdkadgkhfaa

namespace Go.Proofs.Ytjjefdkadgkhfaa
open Go.RowKit

theorem Fx.via {S T : Nat → Prop} {w W W' : World} (h : Fx S w W) (k : Fx T W W') (hT : ∀ g, T g → S g ∨ w.heap.size ≤ g) : Fx S w W' :=
  ⟨k.os.trans h.os, k.tape.trans h.tape, k.output.trans h.output, Nat.le_trans h.size k.size, fun b hb hs =>
    (k.block b (Nat.lt_of_lt_of_le hb h.size) (fun e => by rcases hT b e with h1 | h1; exact hs h1; omega)).trans (h.block b hb hs)⟩
/-- Block g holds no cells. -/
def NoCells (w : World) (g : Nat) : Prop := ∀ cs t fz, w.heap[g]? ≠ some (.cells cs t fz)
theorem NoCells.noTag {w : World} {g : Nat} (h : NoCells w g) : ¬ Tag32 w g := by rintro ⟨cs, fz, h'⟩; exact h _ _ _ h'
theorem NoCells.cell {w : World} {g : Nat} (h : NoCells w g) (o : Nat) (v : Value) : w.cell? ⟨g, o, none⟩ ≠ some v := by
  intro hc
  unfold World.cell? at hc
  cases hb : w.heap[g]? with
  | none => simp [hb] at hc
  | some ob => cases ob <;> simp [hb] at hc <;> exact h _ _ _ hb
theorem MapF.noCells {w : World} {M n : Nat} {f : Nat → Option F} (h : MapF w M n f) : NoCells w M := by
  obtain ⟨D, h1, _⟩ := h
  obtain ⟨es, c, hb⟩ := map_obj h1
  intro cs t fz h'
  rw [hb] at h'; cases h'
/-- A variable of a fraction, of a map, or no cells: nothing that bears limbs or ints. -/
theorem Dull.of {S : Nat → Prop} {w : World} (h : ∀ g, S g → (∃ x, VarF w g x) ∨ (∃ m, Box w g #[.map m] 72) ∨ NoCells w g) : Dull S w := by
  refine ⟨fun g hg => ?_, fun g o z hg hc => ?_⟩
  · rcases h g hg with ⟨x, h1⟩ | ⟨m, h1⟩ | h1
    · exact h1.noTag _ rfl
    · exact h1.noTag (by decide) _ rfl
    · exact h1.noTag
  · rcases h g hg with ⟨x, va, vb, hb, k1, k2⟩ | ⟨m, h1⟩ | h1
    · obtain ⟨p, cp, rfl, _, _⟩ := k1.shape
      obtain ⟨q, cq, rfl, _, _⟩ := k2.shape
      rw [hb.cell] at hc
      rcases o with _ | _ | _ | o <;> simp at hc
    · rw [h1.cell] at hc
      rcases o with _ | o <;> simp at hc
    · exact h1.cell _ _ hc
theorem MapF.soft {w w' : World} {M n l : Nat} {f : Nat → Option F} (h : MapF w M n f) (hs : Soft w l) (hg : w.grownBy w' (some l)) : MapF w' M n f := by
  refine h.grown hg ?_ hs.noTag
  intro e
  injection e with e
  obtain ⟨D, h1, _⟩ := h
  exact map_notSoft h1 (e ▸ hs)
theorem VarF.soft {w w' : World} {b l : Nat} {x : F} (h : VarF w b x) (hs : Soft w l) (hg : w.grownBy w' (some l)) : VarF w' b x := by
  obtain ⟨va, vb, h1, h2, h3⟩ := h
  exact ⟨va, vb, h1.soft hs hg, h2.soft hs hg, h3.soft hs hg⟩

/-- The blocks that Chance turns from wave to wave. -/
def chS (sB gB : Nat) : Nat → Prop := fun b => b = sB ∨ b = gB
/-- Behind r waves. -/
def CJ (R : Ro) (a c : Nat) (W1 : World) (sB gB r : Nat) (W : World) : Prop :=
  VarF W sB (FQ (gS R a c r) ((a + c) ^ cum R r)) ∧ (∃ M n, Box W gB #[.map (some M)] 72 ∧ MapF W M n (goingF R a c r) ∧ n ≤ 2 ^ cum R r) ∧ Fx (chS sB gB) W1 W
theorem CJ.after {R : Ro} {a c : Nat} {W1 : World} {sB gB r : Nat} {W W' : World} (h : CJ R a c W1 sB gB r W) (hb : Below W.heap.size W W') : CJ R a c W1 sB gB r W' := by
  obtain ⟨h1, ⟨M, n, h2, h3, h4⟩, h5⟩ := h
  exact ⟨h1.after hb, ⟨M, n, h2.after hb, h3.after hb, h4⟩, h5.below hb⟩
theorem CJ.soft {R : Ro} {a c : Nat} {W1 : World} {sB gB r l : Nat} {W W' : World} (h : CJ R a c W1 sB gB r W) (hl : W1.heap.size ≤ l) (hs : Soft W l) (hg : W.grownBy W' (some l)) : CJ R a c W1 sB gB r W' := by
  obtain ⟨h1, ⟨M, n, h2, h3, h4⟩, h5⟩ := h
  exact ⟨h1.soft hs hg, ⟨M, n, h2.soft hs hg, h3.soft hs hg, h4⟩, h5.new hg hl⟩
theorem CJ.dull {R : Ro} {a c : Nat} {W1 : World} {sB gB r : Nat} {W : World} (h : CJ R a c W1 sB gB r W) : Dull (chS sB gB) W := by
  obtain ⟨h1, ⟨M, n, h2, h3, h4⟩, h5⟩ := h
  refine Dull.of fun g hg => ?_
  rcases hg with rfl | rfl
  · exact .inl ⟨_, h1⟩
  · exact .inr (.inl ⟨_, h2⟩)

/-- Within a wave: the values below j, and value j at the keys met. n bounds the entries of the next map. -/
def PJ (R : Ro) (a c r : Nat) (W4 : World) (sB M' n j : Nat) (vis : Nat → Bool) (W : World) : Prop :=
  VarF W sB (FQ (gS R a c r * (a + c) ^ wv R r + partS (gN R a c r) (ex a c (wv R r)) (cum R (r + 1) + 1) (mOf R (cum R (r + 1))) j vis) ((a + c) ^ cum R (r + 1))) ∧
  MapF W M' n (partF (gN R a c r) (ex a c (wv R r)) (dN R r) (mOf R (cum R (r + 1))) ((a + c) ^ cum R (r + 1)) j vis) ∧ Fx (chS sB M') W4 W
theorem PJ.after {R : Ro} {a c r : Nat} {W4 : World} {sB M' n j : Nat} {vis : Nat → Bool} {W W' : World} (h : PJ R a c r W4 sB M' n j vis W) (hb : Below W.heap.size W W') : PJ R a c r W4 sB M' n j vis W' :=
  ⟨h.1.after hb, h.2.1.after hb, h.2.2.below hb⟩
theorem PJ.new {R : Ro} {a c r : Nat} {W4 : World} {sB M' n j g : Nat} {vis : Nat → Bool} {W W' : World} (h : PJ R a c r W4 sB M' n j vis W) (hg : W.grownBy W' (some g)) (hn : W4.heap.size ≤ g) (hc : NoCells W g) (hs : g ≠ M') : PJ R a c r W4 sB M' n j vis W' := by
  refine ⟨h.1.grown hg (fun g' e => by injection e with e; subst e; exact hc.noTag) ?_, h.2.1.grown hg (by intro e; injection e with e; exact hs e.symm) (fun g' e => by injection e with e; subst e; exact hc.noTag), h.2.2.new hg hn⟩
  intro e
  injection e with e
  subst e
  obtain ⟨va, vb, hb, _⟩ := h.1
  exact hc _ _ _ hb
theorem PJ.dull {R : Ro} {a c r : Nat} {W4 : World} {sB M' n j : Nat} {vis : Nat → Bool} {W : World} (h : PJ R a c r W4 sB M' n j vis W) : Dull (chS sB M') W := by
  refine Dull.of fun g hg => ?_
  rcases hg with rfl | rfl
  · exact .inl ⟨_, h.1⟩
  · exact .inr (.inr h.2.1.noCells)
/-- At the start of a wave, with an empty map of its own. -/
theorem PJ.start {R : Ro} {a c : Nat} {W4 : World} {sB M' r : Nat} (hv : ValidR R) (hr : r < R.waves.length) (hpos : 0 < a + c) (h : VarF W4 sB (FQ (gS R a c r) ((a + c) ^ cum R r))) (hM : MapF W4 M' 0 (fun _ => none)) : PJ R a c r W4 sB M' 0 0 (fun _ => false) W4 := by
  refine ⟨?_, hM.cong fun k => (partF_start _ _ _ _ _ k).symm, Fx.refl _ _⟩
  rw [partS_zero, Nat.add_zero, ← (cum_wv hv hr).1, Nat.pow_add, fq_scale (Nat.pow_pos hpos) (Nat.pow_pos hpos)]
  exact h
/-- All keys met: the next value. -/
theorem PJ.next {R : Ro} {a c r : Nat} {W4 : World} {sB M' n j : Nat} {vis : Nat → Bool} {W : World} (h : PJ R a c r W4 sB M' n j vis W) (hv : ∀ k, vis k = true ↔ k < dN R r) : PJ R a c r W4 sB M' n (j + 1) (fun _ => false) W := by
  refine ⟨?_, h.2.1.cong fun k => partF_all hv (gN_dN R a c r), h.2.2⟩
  rw [← partS_all (fun k hk => (hv k).2 hk) (gN_dN R a c r)]
  exact h.1
/-- The end of a wave. -/
theorem PJ.last {R : Ro} {a c r : Nat} {W4 : World} {sB M' n : Nat} {W : World} (hv : ValidR R) (hr : r < R.waves.length) (h : PJ R a c r W4 sB M' n (wv R r + 1) (fun _ => false) W) :
    VarF W sB (FQ (gS R a c (r + 1)) ((a + c) ^ cum R (r + 1))) ∧ MapF W M' n (goingF R a c (r + 1)) := by
  refine ⟨?_, h.2.1.cong fun k => partF_end (cum_wv hv hr).1 k⟩
  rw [gS_part]
  exact h.1
/-- How many entries there may be. -/
theorem entries_bound {R : Ro} {r C n : Nat} (hw : cum R r + wv R r = cum R (r + 1)) (hC : C ≤ 2 ^ cum R r) (hn : n ≤ (wv R r + 1) * C) : n ≤ 2 ^ cum R (r + 1) := by
  have h1 : wv R r + 1 ≤ 2 ^ wv R r := Nat.lt_two_pow_self
  rw [← hw, Nat.pow_add]
  calc n ≤ (wv R r + 1) * C := hn
    _ ≤ 2 ^ wv R r * 2 ^ cum R r := Nat.mul_le_mul h1 hC
    _ = 2 ^ cum R r * 2 ^ wv R r := Nat.mul_comm _ _
theorem below_of_grown {w w' : World} (h : w.grownBy w' none) : Below w.heap.size w w' := ⟨h.os, h.tape, h.output, h.size, fun k hk => h.block k hk (by simp)⟩
theorem KeepSoft.fx {B : Nat} {w0 w W : World} {S : Nat → Prop} (h : KeepSoft B w0 w) (hf : Fx S w W) (hs : ∀ g, S g → ¬ Soft w g) : KeepSoft B w0 W :=
  h.trans ⟨hf.size, fun b _ hb => hf.block b hb.lt fun e => hs b e hb⟩
theorem PJ.notSoft {R : Ro} {a c r : Nat} {W4 : World} {sB M' n j : Nat} {vis : Nat → Bool} {W : World} (h : PJ R a c r W4 sB M' n j vis W) : ∀ g, chS sB M' g → ¬ Soft W g := by
  rintro g (rfl | rfl) hs
  · obtain ⟨va, vb, hb, _⟩ := h.1
    exact hs.ne_box hb rfl
  · obtain ⟨D, h1, _⟩ := h.2.1
    exact map_notSoft h1 hs
/-- A wave's end: the variable of the map is turned. -/
theorem CJ.next {R : Ro} {a c r : Nat} {W1 W4 wr : World} {sB gB M M' n' : Nat} (hv : ValidR R) (hr : r < R.waves.length) (hne : sB ≠ gB) (hM1 : W1.heap.size ≤ M') (hgM : gB ≠ M') (hg4 : gB < W4.heap.size)
    (hf4 : Fx (chS sB gB) W1 W4) (hG : Box W4 gB #[.map (some M)] 72) (hn : n' ≤ (wv R r + 1) * 2 ^ cum R r) (hp : PJ R a c r W4 sB M' n' (wv R r + 1) (fun _ => false) wr) :
    CJ R a c W1 sB gB (r + 1) (wr.setCell ⟨gB, 0, none⟩ (.map (some M'))) := by
  obtain ⟨h1, h2⟩ := hp.last hv hr
  have hG' := hG.fx hp.2.2 (by rintro (e | e); exact hne e.symm; exact hgM e)
  have hg := grown_set wr gB 0 (.map (some M'))
  refine ⟨h1.grown hg (hG'.noTag (by decide)) (by intro e; injection e with e; exact hne e), ⟨M', n', ?_, h2.grown hg (by intro e; injection e with e; exact hgM e.symm) (hG'.noTag (by decide)), entries_bound (cum_wv hv hr).1 (Nat.le_refl _) hn⟩, ?_⟩
  · have := hG'.set 0 (.map (some M'))
    simpa using this
  · exact (hf4.via hp.2.2 (by rintro g (rfl | rfl); exact .inl (.inl rfl); exact .inr hM1)).of hg (.inr rfl)

/-- Which keys of the map are still to come. -/
def LJ (R : Ro) (r : Nat) (left : Lit → Bool) (vis : Nat → Bool) : Prop :=
  (∀ kl, left kl = true → ∃ k : Nat, kl = .int .i64 (k : Int) ∧ k < dN R r ∧ vis k = false) ∧ (∀ k, k < dN R r → vis k = true ∨ left (.int .i64 (k : Int)) = true) ∧ ∀ k, vis k = true → k < dN R r
theorem LJ.start {R : Ro} {a c r : Nat} {w : World} {D : DataW Value} (h : MapD w D (goingF R a c r)) : LJ R r (Maps.has D) (fun _ => false) := by
  refine ⟨fun kl hk => ?_, fun k hk => .inr (h.2 k _ (goingF_yes hk)).1, fun k hk => by cases hk⟩
  obtain ⟨k, rfl, hs⟩ := h.1 kl hk
  refine ⟨k, rfl, ?_, rfl⟩
  rcases Nat.lt_or_ge k (dN R r) with h1 | h1
  · exact h1
  · rw [goingF_no h1] at hs; cases hs
theorem LJ.step {R : Ro} {r k : Nat} {left : Lit → Bool} {vis : Nat → Bool} (h : LJ R r left vis) (hk : k < dN R r) : LJ R r (fun z => left z && !z.sameKey (.int .i64 (k : Int))) (fun x => decide (x = k) || vis x) := by
  refine ⟨fun kl hl => ?_, fun k' hk' => ?_, fun k' hv => ?_⟩
  · simp only [Bool.and_eq_true, Bool.not_eq_true'] at hl
    obtain ⟨k', rfl, h1, h2⟩ := h.1 kl hl.1
    refine ⟨k', rfl, h1, ?_⟩
    have hne : k' ≠ k := by
      rintro rfl
      have hkl : Go.WideAt.IsKeyLit (.int .i64 (k' : Int)) := trivial
      rw [Go.WideAt.sameKey_self hkl] at hl
      cases hl.2
    simp [hne, h2]
  · by_cases he : k' = k
    · left; simp [he]
    · rcases h.2.1 k' hk' with h1 | h1
      · left; simp [h1]
      · right
        show (left _ && !Lit.sameKey _ _) = true
        rw [h1]
        cases hs : (Lit.int .i64 (k' : Int)).sameKey (.int .i64 (k : Int)) with
        | false => rfl
        | true => exact absurd (lit_nat.1 (Go.WideAt.sameKey_eq hs)) he
  · simp only [Bool.or_eq_true, decide_eq_true_eq] at hv
    rcases hv with rfl | hv
    · exact hk
    · exact h.2.2 k' hv
theorem LJ.done {R : Ro} {r : Nat} {left : Lit → Bool} {vis : Nat → Bool} (h : LJ R r left vis) (hl : ∀ kl, left kl = false) (k : Nat) : vis k = true ↔ k < dN R r := by
  refine ⟨h.2.2 k, fun hk => ?_⟩
  rcases h.2.1 k hk with h1 | h1
  · exact h1
  · rw [hl] at h1; cases h1
/-- The blocks that a walk over the map turns. -/
def chT (sB M' r0 : Nat) : Nat → Prop := fun b => b = sB ∨ b = M' ∨ b = r0
/-- Within the walk over the map, g keys being left. -/
def IJ (R : Ro) (a c r : Nat) (W4 : World) (sB M' j : Nat) (WR : World) (M r0 n C : Nat) (D : DataW Value) (g : Nat) (wx : World) : Prop :=
  ∃ vis left n', n' + g ≤ C ∧ wx.ranges Try.prog 3 rdV M r0 n D left g ∧ LJ R r left vis ∧ PJ R a c r W4 sB M' n' j vis wx ∧ Fx (chT sB M' r0) WR wx
theorem ranges_fx {w W : World} {M r0 n g : Nat} {D : DataW Value} {left : Lit → Bool} (h : w.ranges Try.prog 3 rdV M r0 n D left g) (h1 : W.heap[M]? = w.heap[M]?) (h2 : W.heap[r0]? = w.heap[r0]?) : W.ranges Try.prog 3 rdV M r0 n D left g := by
  obtain ⟨es, clock, since, seen, c0, k1, k2, k3, k4, k5, k6⟩ := h
  exact ⟨es, clock, since, seen, c0, h1.trans k1, k2, k3, k4, h2.trans k5, k6⟩
theorem ranges_noCells {w : World} {M r0 n g : Nat} {D : DataW Value} {left : Lit → Bool} (h : w.ranges Try.prog 3 rdV M r0 n D left g) : NoCells w r0 := by
  obtain ⟨es, clock, since, seen, c0, k1, k2, k3, k4, k5, k6⟩ := h
  intro cs t fz h'
  rw [k5] at h'; cases h'
theorem ranges_notSoft {w : World} {M r0 n g : Nat} {D : DataW Value} {left : Lit → Bool} (h : w.ranges Try.prog 3 rdV M r0 n D left g) : ¬ Soft w r0 := by
  obtain ⟨es, clock, since, seen, c0, k1, k2, k3, k4, k5, k6⟩ := h
  rintro (⟨L, h'⟩ | ⟨d, h'⟩) <;> rw [k5] at h' <;> cases h'
theorem invK_int {key : Value} {kl : Lit} (h : keyOf Try.prog 3 key = some kl) : ∃ x, key = .int .i64 x := by
  obtain ⟨x, rfl, _⟩ := Maps.keyOf_int_inv Try.underlying3 h
  exact ⟨x, rfl⟩
theorem key_of_lit {x : Int} {k : Nat} (h : keyOf Try.prog 3 (.int .i64 x) = some (.int .i64 (k : Int))) : x = (k : Int) := by
  obtain ⟨y, e1, e2, _⟩ := Maps.keyOf_int_inv Try.underlying3 h
  have e3 := (Value.int.inj e1).2
  have e4 := (Lit.int.inj e2).2
  omega
/-- The element that the walk has come to. -/
theorem elem_at {w : World} {R : Ro} {a c r k : Nat} {D : DataW Value} {cc : Value} {yy : DataW Value × List MemPlace} (h : MapD w D (goingF R a c r)) (hk : k < dN R r) (hrd : rdV (id cc) = some yy) (hat : ∀ zd, D.atKey (.int .i64 (k : Int)) zd = yy.1) :
    IsF w cc (FQ (gN R a c r k) ((a + c) ^ cum R r)) := by
  obtain ⟨_, uv, h2, h3⟩ := h.2 k _ (goingF_yes hk)
  unfold rdV at hrd
  have e1 : yy.1 = .held cc := by have := Option.some.inj hrd; rw [← this]; rfl
  have e2 := (hat (.held cc)).symm.trans (h2 (.held cc))
  rw [e1] at e2
  rw [DataW.held.inj e2]
  exact h3
end Go.Proofs.Ytjjefdkadgkhfaa
