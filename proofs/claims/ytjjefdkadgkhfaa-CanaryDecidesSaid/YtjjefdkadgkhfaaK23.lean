/- Walks of the statements' own functions on rollouts: of, fraction, own.
   Walks of package canary: what Run wants; an append as one step of a region that draws, in a round.
   Canary, plain: the values of the chapter's example.
   Walks of the statements' own functions on rollouts: same, sample; slices.Equal of ints.
   Walks of the library: slices.EqualFunc of decisions, by the statements' own same. -/
import Derived.Test.YtjjefdkadgkhfaaK11
import Derived.Test.YtjjefdkadgkhfaaK22
import Derived.Test.YtjjefdkadgkhfaaK21
import Derived.OwnWalkIn
import Derived.Test.YtjjefdkadgkhfaaK20
import Derived.Test.YtjjefdkadgkhfaaK19
import Derived.Test.YtjjefdkadgkhfaaK03
set_option linter.unusedVariables false
namespace Go.Proofs.Ytjjefdkadgkhfaa
open Go.RowKit Go.Shelf

set_option maxRecDepth 100000 in
set_option maxHeartbeats 1000000 in
theorem of32_c (w : World) (n d : Int) (h0 : -9223372036854775808 ≤ n) (h1 : n ≤ 9223372036854775807) (k0 : -9223372036854775808 ≤ d) (k1 : d ≤ 9223372036854775807) :
    Calls Try.prog 13 #[.int .i64 n, .int .i64 d] w (RetF1 w (ofF n d).1) := by
  obtain ⟨W0, hW⟩ : ∃ W0, W0 = w.alloc (.cells #[.bool false, .slice none 0 0, .slice none 0 0] 30) := ⟨_, rfl⟩
  have hb0 : Below w.heap.size w W0 := hW ▸ (Below.refl w.heap.size w).alloc (Nat.le_refl _) _
  have br : Box W0 w.heap.size #[.bool false, .slice none 0 0, .slice none 0 0] 30 := hW ▸ Box.new w _ _
  have HB0 := Lib.hid hb0
  have BR := Lib.hid br
  clear hb0 br
  go_enter Try.func13, Try.ntmps13
  go_upto_region 1 with fail
  rw [← hW]
  clear hW
  go_wp2_with fail
  refine (ROf_c _ n d h0 h1 k0 k1).mono ?_
  obtain ⟨o, ho⟩ : ∃ o, ofF n d = o := ⟨_, rfl⟩
  rw [ho]
  have HO := Lib.hid ho
  clear ho
  obtain ⟨⟨neg, A, B⟩, er⟩ := o
  rintro e w1 ⟨v, rfl, hv, hb1⟩
  obtain ⟨va, vb, rfl, h1, h2⟩ := hv
  simp only at h1 h2
  have bx1 := BR.out.after hb1
  obtain ⟨r0, r1, r2⟩ := bx1.cells3
  have f0 := bx1.frozen 0
  have f1 := bx1.frozen 1
  have f2 := bx1.frozen 2
  have hlt := bx1.lt
  have BX1 := Lib.hid bx1
  have HV1 := Lib.hid h1
  have HV2 := Lib.hid h2
  obtain ⟨p, cp, rfl, _, _⟩ := h1.shape
  obtain ⟨q, cq, rfl, _, _⟩ := h2.shape
  have HB1 := Lib.hid (HB0.out.trans (hb1.mono HB0.out.size))
  clear bx1 h1 h2 hb1
  go_wp2_with fail
  obtain ⟨e0, e1, e2⟩ := end_cells BX1.out (y0 := .bool neg) (y1 := .slice p A.length cp) (y2 := .slice q B.length cq) (.cells #[.bool neg, .slice p A.length cp, .slice q B.length cq] 30)
  refine bodyPost_ret (v := .agg #[.bool neg, .slice p A.length cp, .slice q B.length cq]) (by simp [results, Try.results13, go_sem, e0, e1, e2]) rfl ?_
  rw [HO.out]
  exact (retF1_end (x := ⟨neg, A, B⟩) HB1.out BX1.out (fun _ h => by cases h) (fun _ h => by cases h) (Nat.le_refl _) HV1.out HV2.out).alloc _

/-- The value v is the rollout R, which came in as an argument. -/
def IsRA (w : World) (v : Value) (R : Ro) : Prop := ∃ vh vw va vb vc vd, v = .agg #[vh, vw, .bool R.rate.neg, va, vb, .bool R.bound.neg, vc, vd] ∧ SlI w vh R.hosts ∧ SlI w vw R.waves ∧ SlA w va R.rate.num ∧ SlA w vb R.rate.den ∧ SlA w vc R.bound.num ∧ SlA w vd R.bound.den
theorem Sl.toA {w : World} {v : Value} {l : List Nat} (h : Sl w v l) : SlA w v l := by
  obtain ⟨h0, a, cap, h1, h2, h3, h5, h6⟩ := h
  exact ⟨h0, a, cap, h1, h2, h3, h5.1, h6⟩
theorem IsF.toA {w : World} {v : Value} {x : F} (h : IsF w v x) : IsFA w v x := by
  obtain ⟨va, vb, e, h1, h2⟩ := h
  exact ⟨va, vb, e, h1.toA, h2.toA⟩
theorem IsR.toA {w : World} {v : Value} {R : Ro} (h : IsR w v R) : IsRA w v R := by
  obtain ⟨vh, vw, va, vb, vc, vd, e, h1, h2, h3, h4, h5, h6⟩ := h
  exact ⟨vh, vw, va, vb, vc, vd, e, h1, h2, h3.toA, h4.toA, h5.toA, h6.toA⟩
theorem IsRA.after {w w' : World} {v : Value} {R : Ro} (h : IsRA w v R) (hb : Below w.heap.size w w') : IsRA w' v R := by
  obtain ⟨vh, vw, va, vb, vc, vd, e, h1, h2, h3, h4, h5, h6⟩ := h
  exact ⟨vh, vw, va, vb, vc, vd, e, h1.after hb, h2.after hb, h3.after hb, h4.after hb, h5.after hb, h6.after hb⟩
/-- A rollout of at most 18 hosts and waves, its fractions of at most 34 limbs. -/
def cutR (R : Ro) : Ro := ⟨R.hosts.take 18, R.waves.take 18, cut34 R.rate, cut34 R.bound⟩
/-- The result is a rollout. -/
def RetR (w : World) (R : Ro) (e : Ending) (w' : World) : Prop := ∃ v, e = .returned v ∧ IsR w' v R ∧ Below w.heap.size w w'
theorem SlI.cut {w : World} {p : Option Addr} {c : Nat} {l : List Int} (h : SlI w (.slice p l.length c) l) : SlI w (.slice p (min (l.length : Int) 18).toNat c) (l.take 18) := by
  obtain ⟨h0, a, cap, h1, h2, h3, h4, h5⟩ := h
  obtain ⟨rfl, rfl⟩ : p = a ∧ c = cap := by injection h1 with e1 _ e3; exact ⟨e1, e3⟩
  have hn : (min (l.length : Int) 18).toNat = ((l.take 18).map (Value.int .i64)).length := by rw [List.length_map, List.length_take]; omega
  rw [List.length_map] at h2 h5
  refine ⟨fun z hz => h0 z (List.mem_of_mem_take hz), p, c, by rw [hn], by rw [List.length_map, List.length_take]; omega, h3, h4, fun hl => ?_⟩
  rw [List.length_map, List.length_take] at hl
  obtain ⟨b, off, ha, hlt, hc⟩ := h5 (by omega)
  refine ⟨b, off, ha, hlt, fun i z hz => hc i z ?_⟩
  rw [List.getElem?_map, List.getElem?_take] at hz
  rw [List.getElem?_map]
  split at hz
  · exact hz
  · cases hz
/-- Eight cells, written one by one. -/
abbrev set8 (w : World) (b : Nat) (y0 y1 y2 y3 y4 y5 y6 y7 : Value) : World := (((((((w.setCell ⟨b, 0, none⟩ y0).setCell ⟨b, 1, none⟩ y1).setCell ⟨b, 2, none⟩ y2).setCell ⟨b, 3, none⟩ y3).setCell ⟨b, 4, none⟩ y4).setCell ⟨b, 5, none⟩ y5).setCell ⟨b, 6, none⟩ y6).setCell ⟨b, 7, none⟩ y7
theorem set8_box {w : World} {b : Nat} {x0 x1 x2 x3 x4 x5 x6 x7 : Value} {t : TypeId} (h : Box w b #[x0, x1, x2, x3, x4, x5, x6, x7] t) (y0 y1 y2 y3 y4 y5 y6 y7 : Value) : Box (set8 w b y0 y1 y2 y3 y4 y5 y6 y7) b #[y0, y1, y2, y3, y4, y5, y6, y7] t := by
  unfold set8
  have := (((((((h.set 0 y0).set 1 y1).set 2 y2).set 3 y3).set 4 y4).set 5 y5).set 6 y6).set 7 y7
  simpa using this
theorem set8_grown (w : World) (b : Nat) (y0 y1 y2 y3 y4 y5 y6 y7 : Value) : w.grownBy (set8 w b y0 y1 y2 y3 y4 y5 y6 y7) (some b) :=
  grown_tr (grown_tr (grown_tr (grown_tr (grown_tr (grown_tr (grown_tr (grown_set w b 0 y0) (grown_set _ b 1 y1)) (grown_set _ b 2 y2)) (grown_set _ b 3 y3)) (grown_set _ b 4 y4)) (grown_set _ b 5 y5)) (grown_set _ b 6 y6)) (grown_set _ b 7 y7)
theorem keep8z {W : World} {b X : Nat} {y0 y1 y2 y3 y4 y5 y6 y7 a0 a1 a2 a3 a4 a5 a6 a7 : Value} (h : X ≠ b) (hs : W.cell? ⟨X, 0, none⟩ = some a0 ∧ W.cell? ⟨X, 1, none⟩ = some a1 ∧ W.cell? ⟨X, 2, none⟩ = some a2 ∧ W.cell? ⟨X, 3, none⟩ = some a3 ∧ W.cell? ⟨X, 4, none⟩ = some a4 ∧ W.cell? ⟨X, 5, none⟩ = some a5 ∧ W.cell? ⟨X, 6, none⟩ = some a6 ∧ W.cell? ⟨X, 7, none⟩ = some a7) :
    (set8 W b y0 y1 y2 y3 y4 y5 y6 y7).cell? ⟨X, 0, none⟩ = some a0 ∧ (set8 W b y0 y1 y2 y3 y4 y5 y6 y7).cell? ⟨X, 1, none⟩ = some a1 ∧ (set8 W b y0 y1 y2 y3 y4 y5 y6 y7).cell? ⟨X, 2, none⟩ = some a2 ∧ (set8 W b y0 y1 y2 y3 y4 y5 y6 y7).cell? ⟨X, 3, none⟩ = some a3 ∧ (set8 W b y0 y1 y2 y3 y4 y5 y6 y7).cell? ⟨X, 4, none⟩ = some a4 ∧ (set8 W b y0 y1 y2 y3 y4 y5 y6 y7).cell? ⟨X, 5, none⟩ = some a5 ∧ (set8 W b y0 y1 y2 y3 y4 y5 y6 y7).cell? ⟨X, 6, none⟩ = some a6 ∧ (set8 W b y0 y1 y2 y3 y4 y5 y6 y7).cell? ⟨X, 7, none⟩ = some a7 := by
  have hg := set8_grown W b y0 y1 y2 y3 y4 y5 y6 y7
  have hne : some X ≠ some b := by intro e; injection e with e; exact h e
  obtain ⟨h0, h1, h2, h3, h4, h5, h6, h7⟩ := hs
  exact ⟨hg.cell h0 hne, hg.cell h1 hne, hg.cell h2 hne, hg.cell h3 hne, hg.cell h4 hne, hg.cell h5 hne, hg.cell h6 hne, hg.cell h7 hne⟩
/-- The empty variable of a rollout bears neither limbs nor ints. -/
theorem dull_ro {w : World} {b : Nat} (h : Box w b #[.slice none 0 0, .slice none 0 0, .bool false, .slice none 0 0, .slice none 0 0, .bool false, .slice none 0 0, .slice none 0 0] 32) : Dull (fun g => g = b) w := by
  refine ⟨?_, ?_⟩
  · rintro g rfl
    exact h.noTag (by decide) _ rfl
  · rintro g o z rfl hc
    rw [h.cell] at hc
    rcases o with _ | _ | _ | _ | _ | _ | _ | _ | o <;> simp at hc

end Go.Proofs.Ytjjefdkadgkhfaa

namespace Go.Proofs.Ytjjefdkadgkhfaa
open Go.RowKit

theorem step_append_in {F : Fence} {n : Nat} {P : Program} {ops : Array Oper} {o : Oper} {a : Act} {w : World} {K : Act → World → Prop} {Q : Exit → Act → World → Prop} {E : Prop}
    (hg : o.guard = none) (s x : Operand) (t : TypeId) (hop : o.op = Op.call { callee := Callee.builtin Builtin.append, args := #[s, x], argTypes := #[t, t] })
    (base : Nat) (e : TypeId) (i : TypeInfo) (z : Value) (size bytes : Nat) (h1 : P.underlying t = some (.slice e)) (h2 : P.info? e = some i) (h3 : i.zero = some z) (h4 : i.size = size) (h5 : i.bytes = bytes) (h6 : z.cells.size = size) (h7 : 0 < size)
    (v : Value) (k : Nat) (xs : List Value) (hs : a.eval s = v) (hown : w.ownsRow base e size v k xs) (ad : Addr) (m c : Nat) (news : List Value) (hx : a.eval x = .slice (some ad) m c) (hn : news.length = m * size)
    (hc : ∀ j u, news[j]? = some u → w.cell? (ad.add j) = some u) (h1c : ∀ u ∈ news, u.oneCell' = true) (b1 : k + m ≤ maxLen) (b2 : (k + m) * bytes ≤ 140737488355328) (b3 : base ≤ w.heap.size)
    (hK : ∀ v' w', w'.ownsRow base e size v' (k + m) (xs ++ news) → w.grownBy w' v.ownBlock → K (a.put o.dst v') w') :
    if Region.wanted o (yielded ops a.tmps) = true then Oper.wpIn F n P o a w K Q else E := by
  have hw : Region.wanted o (yielded ops a.tmps) = true := by simp [Region.wanted, hg]
  rw [if_pos hw]
  obtain ⟨v', w', hrun, r1, r2, r3⟩ := run_append_own (P := P) w base t o.type e i z size bytes h1 h2 h3 h4 h5 h6 h7 v k xs hown ad m c news hn hc h1c b1 b2 b3
  unfold Oper.wpIn
  refine ⟨?_, ?_⟩
  · simp [Oper.about, hop, resolve, Target.leads, Sem.run_pure]
  · rw [Oper.semAt_eq _ _ _ (by rw [hop]; intro c hc'; cases hc')]
    simp [execOp, hop, resolve, invoke, builtin, hs, hx, hrun, Result.andThen]
    exact hK v' w' r1 r2

section
open Classical
/-- The decisions from boundary r on. -/
noncomputable def runD (R : Ro) (fails : List Bool) (r : Nat) : Nat → List Dec
  | 0 => [⟨3, []⟩]
  | k + 1 => ⟨1, hostsOf R (cum R r) (cum R (r + 1))⟩ :: if GoB R (cum R (r + 1)) (failsN fails (cum R (r + 1))) then runD R fails (r + 1) k else [⟨2, []⟩]
/-- What Run returns. -/
noncomputable def runF (R : Ro) (fails : List Bool) : List Dec × Int := if ValidR R then (if fails.length = R.hosts.length then (runD R fails 0 R.waves.length, 0) else ([], 2)) else ([], 1)
end
/-- The first r waves, decided on. -/
def wavesD (R : Ro) (r : Nat) : List Dec := (List.range r).map fun j => ⟨1, hostsOf R (cum R j) (cum R (j + 1))⟩
theorem wavesD_succ (R : Ro) (r : Nat) : wavesD R (r + 1) = wavesD R r ++ [⟨1, hostsOf R (cum R r) (cum R (r + 1))⟩] := by
  unfold wavesD; rw [List.range_succ, List.map_append]; rfl
theorem runD_go {R : Ro} {fails : List Bool} {r k : Nat} (h : GoB R (cum R (r + 1)) (failsN fails (cum R (r + 1)))) : wavesD R r ++ runD R fails r (k + 1) = wavesD R (r + 1) ++ runD R fails (r + 1) k := by
  rw [wavesD_succ, runD, if_pos h]; simp
theorem runD_stop {R : Ro} {fails : List Bool} {r k : Nat} (h : ¬ GoB R (cum R (r + 1)) (failsN fails (cum R (r + 1)))) : wavesD R r ++ runD R fails r (k + 1) = wavesD R (r + 1) ++ [⟨2, []⟩] := by
  rw [wavesD_succ, runD, if_neg h]; simp
/-- So far it went on; variable O holds the decisions. -/
def RJ (R : Ro) (fails : List Bool) (W1 : World) (O r : Nat) (W : World) : Prop := OutD W1 O r (wavesD R r) W ∧ runD R fails 0 R.waves.length = wavesD R r ++ runD R fails r (R.waves.length - r)
/-- The result is a row of decisions and an error. -/
def RetDs (w : World) (r : List Dec × Int) (e : Ending) (w' : World) : Prop := ∃ v, e = .returned (.tuple #[v, .int .i64 r.2]) ∧ SlD w' v r.1 ∧ Below w.heap.size w w'
/-- The result's two variables, at D and behind it, are written. -/
def DsAt (w : World) (D : Nat) (r : List Dec × Int) (W : World) : Prop := ∃ v, Box W D #[v] 47 ∧ Box W (D + 1) #[.int .i64 r.2] 35 ∧ SlD W v r.1 ∧ Below w.heap.size w W
theorem DsAt.soft {w W W' : World} {D n : Nat} {r : List Dec × Int} (h : DsAt w D r W) (hs : Soft W n) (hn : w.heap.size ≤ n) (hg : W.grownBy W' (some n)) : DsAt w D r W' := by
  obtain ⟨v, h1, h2, h3, h4⟩ := h
  exact ⟨v, h1.soft hs hg, h2.soft hs hg, h3.soft hs hg, h4.grown hg h4.size (fun g e => by injection e with e; omega)⟩
/-- The stores of the result: an owned row of decisions and an error. -/
theorem ds_store {w W : World} {D base n : Nat} {x y u : Value} {es : List (Nat × Value)} {ds : List Dec} {e : Int} (hD : Box W D #[x] 47) (hE : Box W (D + 1) #[y] 35) (hle : w.heap.size ≤ D) (hb : Below w.heap.size w W)
    (hown : W.ownsRow base 53 2 u n (cellsD es)) (hes : EntsD W es ds) (hbase : D + 1 < base) : DsAt w D (ds, e) ((W.setCell ⟨D, 0, none⟩ u).setCell ⟨D + 1, 0, none⟩ (.int .i64 e)) := by
  have hge := ownsRow_ge hown
  have bE1 : Box (W.setCell ⟨D, 0, none⟩ u) (D + 1) #[y] 35 := hE.far (p := ⟨D, 0, none⟩) (by simp) u
  have hown1 : (W.setCell ⟨D, 0, none⟩ u).ownsRow base 53 2 u n (cellsD es) := hown.kept (grown_set W D 0 u) (by
    cases hb : u.ownBlock with
    | none => exact .inl rfl
    | some g => exact .inr (by intro e; injection e with e; have := (hge g hb).1; omega))
  have hown2 : ((W.setCell ⟨D, 0, none⟩ u).setCell ⟨D + 1, 0, none⟩ (.int .i64 e)).ownsRow base 53 2 u n (cellsD es) := hown1.kept (grown_set _ (D + 1) 0 _) (by
    cases hb : u.ownBlock with
    | none => exact .inl rfl
    | some g => exact .inr (by intro e; injection e with e; have := (hge g hb).1; omega))
  have hes2 := (hes.grown (grown_set W D 0 u) (hD.noInt (by decide))).grown (grown_set _ (D + 1) 0 (.int .i64 e)) (bE1.noInt (by decide))
  refine ⟨u, ?_, ?_, SlD.of_own hown2 hes2, (hb.setCell (p := ⟨D, 0, none⟩) hle _).setCell (p := ⟨D + 1, 0, none⟩) (Nat.le_succ_of_le hle) _⟩
  · have := (hD.set 0 u).far (p := ⟨D + 1, 0, none⟩) (by simp) (.int .i64 e)
    simpa using this
  · have := bE1.set 0 (.int .i64 e)
    simpa using this
theorem ds_keep {w2 W : World} {B D : Nat} {x y : Value} (hD : Box W D #[x] 47) (hE : Box W (D + 1) #[y] 35) (hk : KeepSoft B w2 W) (a b : Value) : KeepSoft B w2 ((W.setCell ⟨D, 0, none⟩ a).setCell ⟨D + 1, 0, none⟩ b) :=
  (hk.setCell (v := x) (hD.cell 0)).setCell (v := y) ((hE.far (p := ⟨D, 0, none⟩) (by simp) a).cell 0)
end Go.Proofs.Ytjjefdkadgkhfaa

namespace Go.Proofs.Ytjjefdkadgkhfaa

theorem goB_fr {R : Ro} {a b x y : Nat} (hr : R.rate = fr false a b) (hb : R.bound = fr false x y) (n k : Nat) : GoB R n k ↔ Abv n a (b - a) x y k := by
  unfold GoB
  rw [hr, hb]
  simp only [fr, val_limbs]
theorem goB_anti {R : Ro} {n i j : Nat} (h : i ≤ j) (hj : GoB R n j) : GoB R n i := abv_anti h hj
theorem mOf_is {R : Ro} {n m : Nat} (hm : m ≤ n + 1) (h1 : m = 0 ∨ GoB R n (m - 1)) (h2 : ¬ GoB R n m) : mOf R n = m := by
  refine mOf_eq hm fun k => ⟨fun h => ?_, fun h => ?_⟩
  · rcases Nat.lt_or_ge k m with hk | hk
    · exact hk
    · exact absurd (goB_anti hk h) h2
  · rcases h1 with h1 | h1
    · omega
    · exact goB_anti (by omega) h1
/-- The rollout of the chapter's examples. -/
def R0 : Ro := ⟨[4, 2, 7, 1, 0], [1, 2, 2], fr false 1 4, fr false 1 20⟩
theorem ok14 : Ok false 1 4 := small_ok (by omega) (by omega) (by omega) (by decide)
theorem ok120 : Ok false 1 20 := small_ok (by omega) (by omega) (by omega) (by decide)
theorem ok12' : Ok false 1 2 := small_ok (by omega) (by omega) (by omega) (by decide)
theorem ok732 : Ok false 7 32 := small_ok (by omega) (by omega) (by omega) (by decide)
theorem v_R0 : ValidR R0 := ⟨by decide, by decide, by decide, by decide, by decide, by decide, rateE_ok ok14 (by omega) (by omega), fracE_ok ok120 (by omega)⟩
theorem c0_R0 : cum R0 0 = 0 := rfl
theorem c1_R0 : cum R0 1 = 1 := rfl
theorem c2_R0 : cum R0 2 = 3 := rfl
theorem c3_R0 : cum R0 3 = 5 := rfl
theorem g_R0 (n k : Nat) : GoB R0 n k ↔ Abv n 1 3 1 20 k := goB_fr (a := 1) (b := 4) (x := 1) (y := 20) rfl rfl n k
theorem m1_R0 : mOf R0 1 = 2 := mOf_is (by omega) (.inr ((g_R0 _ _).2 (by simp [Abv, tl_le, tl_gt, ex, ch]))) (fun h => by have := (g_R0 _ _).1 h; simp [Abv, tl_gt] at this)
theorem m3_R0 : mOf R0 3 = 3 := mOf_is (by omega) (.inr ((g_R0 _ _).2 (by simp [Abv, tl_le, tl_gt, ex, ch]))) (fun h => by have := (g_R0 _ _).1 h; simp [Abv, tl_le, tl_gt, ex, ch] at this)
theorem m5_R0 : mOf R0 5 = 4 := mOf_is (by omega) (.inr ((g_R0 _ _).2 (by simp [Abv, tl_le, tl_gt, ex, ch]))) (fun h => by have := (g_R0 _ _).1 h; simp [Abv, tl_le, tl_gt, ex, ch] at this)
theorem go_iff {R : Ro} (h : ValidR R) {n : Nat} (hn : n ≤ 16) (k : Nat) : GoB R n k ↔ k < mOf R n := (goB_mOf h hn).2 k
theorem next1_R0 : nextF R0 [true] = (⟨1, [2, 7]⟩, 0) := by
  unfold nextF
  rw [if_pos v_R0, if_neg (by decide)]
  show nextW R0 [true] 0 3 = _
  rw [nextW, c0_R0, c1_R0, if_neg (by decide), if_neg (by decide), if_pos ((go_iff v_R0 (by omega) _).2 (by rw [m1_R0]; decide)), nextW, c1_R0, if_pos (by decide)]
  rfl
theorem next3_R0 : nextF R0 [true, true, true] = (⟨2, []⟩, 0) := by
  unfold nextF
  rw [if_pos v_R0, if_neg (by decide)]
  show nextW R0 [true, true, true] 0 3 = _
  rw [nextW, c0_R0, c1_R0, if_neg (by decide), if_neg (by decide), if_pos ((go_iff v_R0 (by omega) _).2 (by rw [m1_R0]; decide)), nextW, c1_R0, c2_R0, if_neg (by decide), if_neg (by decide),
    if_neg (fun h => by have := (go_iff v_R0 (by omega) _).1 h; rw [m3_R0] at this; revert this; decide), if_neg (by decide)]
theorem run_R0 : runF R0 [false, false, false, false, false] = ([⟨1, [4]⟩, ⟨1, [2, 7]⟩, ⟨1, [1, 0]⟩, ⟨3, []⟩], 0) := by
  unfold runF
  rw [if_pos v_R0, if_pos (by decide)]
  show (runD R0 [false, false, false, false, false] 0 3, 0) = _
  rw [runD, c0_R0, c1_R0, if_pos ((go_iff v_R0 (by omega) _).2 (by rw [m1_R0]; decide)), runD, c1_R0, c2_R0, if_pos ((go_iff v_R0 (by omega) _).2 (by rw [m3_R0]; decide)), runD, c2_R0, c3_R0, if_pos ((go_iff v_R0 (by omega) _).2 (by rw [m5_R0]; decide)), runD]
  rfl
theorem allowed_R0 : allowedF R0 = ([1, 2, 3], 0) := by
  unfold allowedF
  rw [if_pos v_R0]
  show (allowedL R0 3, 0) = _
  rw [allowedL_succ, allowedL_succ, allowedL_succ, c1_R0, c2_R0, c3_R0, m1_R0, m3_R0, m5_R0]
  rfl
theorem gS_R0 : gS R0 1 1 3 = 7 := by
  simp [gS, nN, cvA, sm, gN, wv, c0_R0, c1_R0, c2_R0, c3_R0, m1_R0, m3_R0, m5_R0, ex, ch]
theorem chance_R0 : chanceF R0 (fr false 1 2) = (fr false 7 32, 0) := by
  have hr : rateE (fr false 1 2) = 0 := rateE_ok ok12' (by omega) (by omega)
  unfold chanceF
  rw [if_neg (by rw [hr]; rintro (h | h); exact h v_R0; omega), if_pos hr]
  show (FQ (gS R0 (val (limbs 1)) (val (limbs 2) - val (limbs 1)) 3) (val (limbs 2) ^ cum R0 3), 0) = _
  rw [val_limbs, val_limbs, gS_R0, c3_R0]
  rw [show FQ 7 (2 ^ 5) = fr false 7 32 from (rep_of_ok ok732).fst]
end Go.Proofs.Ytjjefdkadgkhfaa

namespace Go.Proofs.Ytjjefdkadgkhfaa
open Go.RowKit Go.Shelf

theorem take_beq {n m : Nat} {a b : List Int} (hn : n = a.length) (hm : m = b.length) : ((a.take n == b.take m) = true) ↔ a = b := by
  subst hn; subst hm
  rw [List.take_length, List.take_length, beq_iff_eq]
theorem equal_i (w : World) (va vb : Value) (a b : List Int) (h : SlI w va a) (k : SlI w vb b) : Calls Try.prog 26 #[va, vb] w (RetB w (a = b)) := by
  obtain ⟨p, c, rfl, h1, h2, _⟩ := h.shape
  obtain ⟨q, d, rfl, k1, k2, _⟩ := k.shape
  by_cases hl : a.length = b.length
  · by_cases h0 : a.length = 0
    · have ha : a = [] := List.length_eq_zero_iff.1 h0
      have hb : b = [] := List.length_eq_zero_iff.1 (by omega)
      subst ha; subst hb
      refine (Try.slices_Equal_int_empty p q c ([] : List Int).length d w (by simp)).mono ?_
      rintro e w' ⟨rfl, rfl⟩
      exact ⟨true, rfl, by simp, 0, rfl⟩
    · obtain ⟨ba, oa, rfl, _, hc1⟩ := h.cells (by omega)
      obtain ⟨bb, ob, rfl, _, hc2⟩ := k.cells (by omega)
      refine (Try.slices_Equal_int ba oa a.length c bb ob b.length d a b w (Nat.le_refl _) (Nat.le_refl _) (by omega) (by omega) hc1 hc2).mono ?_
      rintro e w' ⟨rfl, n, rfl⟩
      exact ⟨_, rfl, take_beq rfl rfl, n, rfl⟩
  · refine (Try.slices_Equal_int_lens p q a.length c b.length d w hl).mono ?_
    rintro e w' ⟨rfl, rfl⟩
    exact ⟨false, rfl, by constructor; (intro h; cases h); (intro h; exact absurd (by rw [h]) hl), 0, rfl⟩

/-- The value v is the decision d. -/
def IsD (w : World) (v : Value) (d : Dec) : Prop := ∃ u, v = .agg #[.int .u8 (d.kind : Int), u] ∧ SlI w u d.hosts
theorem IsD.after {w w' : World} {v : Value} {d : Dec} (h : IsD w v d) (hb : Below w.heap.size w w') : IsD w' v d := by
  obtain ⟨u, e, h1⟩ := h
  exact ⟨u, e, h1.after hb⟩
theorem Dec.ext' {a b : Dec} (h1 : a.kind = b.kind) (h2 : a.hosts = b.hosts) : a = b := by cases a; cases b; simp_all
theorem Box.cells2' {w : World} {b : Nat} {x0 x1 : Value} {t : TypeId} (h : Box w b #[x0, x1] t) : w.cell? ⟨b, 0, none⟩ = some x0 ∧ w.cell? ⟨b, 1, none⟩ = some x1 := ⟨h.cell 0, h.cell 1⟩

set_option maxRecDepth 100000 in
set_option maxHeartbeats 4000000 in
theorem same32_c (w : World) (v u : Value) (a b : Dec) (h : IsD w v a) (k : IsD w u b) : Calls Try.prog 23 #[v, u] w (RetC w (a = b)) := by
  obtain ⟨va, rfl, h1⟩ := h
  obtain ⟨vb, rfl, h2⟩ := k
  obtain ⟨p, c, rfl, _, _, _⟩ := h1.shape
  obtain ⟨q, d, rfl, _, _, _⟩ := h2.shape
  obtain ⟨W0, hW, bx, br, hsz, hb0⟩ := start2 w #[.int .u8 (a.kind : Int), .slice p a.hosts.length c] #[.int .u8 (b.kind : Int), .slice q b.hosts.length d] 53
  obtain ⟨x0, x1⟩ := bx.cells2'
  obtain ⟨y0, y1⟩ := br.cells2'
  have H1 := Lib.hid (h1.after hb0)
  have H2 := Lib.hid (h2.after hb0)
  have HB0 := Lib.hid hb0
  clear bx br h1 h2 hb0
  by_cases hk : a.kind = b.kind
  · have HK := Lib.hid hk
    have hne : ((a.kind : Int) == (b.kind : Int)) = true := by rw [beq_iff_eq]; omega
    clear hk
    go_enter Try.func23, Try.ntmps23
    go_upto_region 1 with fail
    rw [← hW]
    clear hW
    go_wp2_with fail
    refine (equal_i _ _ _ _ _ H1.out H2.out).mono ?_
    rintro e w1 ⟨r, rfl, hr, hw⟩
    have hb1 := below_dn hw
    have HR := Lib.hid hr
    have HB1 := Lib.hid (HB0.out.trans (hb1.mono HB0.out.size))
    clear hr hw hb1 x0 x1 y0 y1
    go_wp2_with fail
    go_ret
    exact ⟨r, rfl, ⟨fun h => Dec.ext' HK.out (HR.out.1 h), fun h => HR.out.2 (by rw [h])⟩, HB1.out⟩
  · have HK := Lib.hid hk
    have hne : ((a.kind : Int) == (b.kind : Int)) = false := by rw [beq_eq_false_iff_ne]; omega
    clear hk
    go_enter Try.func23, Try.ntmps23
    go_upto_region 1 with fail
    rw [← hW]
    clear hW
    go_wp2_with fail
    go_ret
    exact ⟨false, rfl, iff_of_false (fun h => nomatch h) (fun h => HK.out (by rw [h])), HB0.out⟩

theorem SlI.lit {w : World} {b : Nat} {l : List Int} {cs : Array Value} {t : TypeId} (h : Box w b cs t) (hcs : cs = (l.map (Value.int .i64)).toArray) (hl : ∀ z ∈ l, In64 z) (hm : l.length ≤ 1000000) : SlI w (.slice (some ⟨b, 0, none⟩) l.length l.length) l := by
  subst hcs
  refine ⟨hl, some ⟨b, 0, none⟩, l.length, by rw [List.length_map], by rw [List.length_map]; exact Nat.le_refl _, by omega, (fun e => by cases e), fun _ => ⟨b, 0, rfl, h.lt, fun i c hi => ?_⟩⟩
  rw [Nat.zero_add, h.cell i, ← hi, List.getElem?_toArray]
theorem SlB.lit {w : World} {b : Nat} {l : List Bool} {cs : Array Value} {t : TypeId} (h : Box w b cs t) (hcs : cs = (l.map Value.bool).toArray) (hm : l.length ≤ 1000000) : SlB w (.slice (some ⟨b, 0, none⟩) l.length l.length) l := by
  subst hcs
  refine ⟨some ⟨b, 0, none⟩, l.length, by rw [List.length_map], by rw [List.length_map]; exact Nat.le_refl _, by omega, (fun e => by cases e), fun _ => ⟨b, 0, rfl, h.lt, fun i c hi => ?_⟩⟩
  rw [Nat.zero_add, h.cell i, ← hi, List.getElem?_toArray]

theorem w_14 : (ofF 1 4).1 = fr false 1 4 := congrArg Prod.fst (ofF_ok (a := 1) (b := 4) rfl rfl ok14)
theorem w_120 : (ofF 1 20).1 = fr false 1 20 := congrArg Prod.fst (ofF_ok (a := 1) (b := 20) rfl rfl ok120)
theorem w_12' : (ofF 1 2).1 = fr false 1 2 := congrArg Prod.fst (ofF_ok (a := 1) (b := 2) rfl rfl ok12')
theorem w_732 : (ofF 7 32).1 = fr false 7 32 := congrArg Prod.fst (ofF_ok (a := 7) (b := 32) rfl rfl ok732)

set_option maxRecDepth 100000 in
set_option maxHeartbeats 4000000 in
theorem sample_c (w : World) : Calls Try.prog 22 #[] w (RetR w R0) := by
  obtain ⟨W0, hW, br, hsz, hb0⟩ := start1 w #[.slice none 0 0, .slice none 0 0, .bool false, .slice none 0 0, .slice none 0 0, .bool false, .slice none 0 0, .slice none 0 0] 32
  have HB0 := Lib.hid hb0
  have BR := Lib.hid br
  clear br hb0
  go_enter Try.func22, Try.ntmps22
  go_upto_region 1 with fail
  rw [← hW]
  clear hW
  go_wp2_with fail
  obtain ⟨W1, hW1⟩ : ∃ W1, W1 = (W0.alloc (.cells #[.int .i64 4, .int .i64 2, .int .i64 7, .int .i64 1, .int .i64 0] 3)).alloc (.cells #[.int .i64 1, .int .i64 2, .int .i64 2] 3) := ⟨_, rfl⟩
  have b1 : Box W1 W0.heap.size #[.int .i64 4, .int .i64 2, .int .i64 7, .int .i64 1, .int .i64 0] 3 := hW1 ▸ (Box.new W0 _ _).alloc _
  have b2 : Box W1 (W0.heap.size + 1) #[.int .i64 1, .int .i64 2, .int .i64 2] 3 := by
    have := Box.new (W0.alloc (.cells #[.int .i64 4, .int .i64 2, .int .i64 7, .int .i64 1, .int .i64 0] 3)) #[.int .i64 1, .int .i64 2, .int .i64 2] 3
    rw [hW1]
    simpa using this
  have hb1 : Below W0.heap.size W0 W1 := hW1 ▸ held_alloc (held_alloc (Below.refl _ W0))
  have HS1 : Hid (SlI W1 (.slice (some ⟨W0.heap.size, 0, none⟩) 5 5) [4, 2, 7, 1, 0]) := SlI.lit (l := [4, 2, 7, 1, 0]) b1 rfl (by unfold In64; decide) (by decide)
  have HS2 : Hid (SlI W1 (.slice (some ⟨W0.heap.size + 1, 0, none⟩) 3 3) [1, 2, 2]) := SlI.lit (l := [1, 2, 2]) b2 rfl (by unfold In64; decide) (by decide)
  have HB1 := Lib.hid (HB0.out.trans (hb1.mono HB0.out.size))
  have BR1 := Lib.hid (BR.out.after hb1)
  rw [← hW1]
  clear hW1 b1 b2 hb1 HB0 BR
  refine (of32_c _ 1 4 (by omega) (by omega) (by omega) (by omega)).mono ?_
  rw [w_14]
  rintro e w2 ⟨v2, rfl, hv2, hb2⟩
  have H2 := Lib.hid hv2
  have hb2' := Lib.hid hb2
  clear hv2 hb2
  go_wp2_with fail
  refine (of32_c _ 1 20 (by omega) (by omega) (by omega) (by omega)).mono ?_
  rw [w_120]
  rintro e w3 ⟨v3, rfl, hv3, hb3⟩
  obtain ⟨x0, hx0⟩ : ∃ x, fr false 1 4 = x := ⟨_, rfl⟩
  obtain ⟨y0, hy0⟩ : ∃ x, fr false 1 20 = x := ⟨_, rfl⟩
  rw [hy0] at hv3
  rw [hx0] at H2
  have hR : Hid (R0 = ⟨[4, 2, 7, 1, 0], [1, 2, 2], x0, y0⟩) := by show _ = _; rw [← hx0, ← hy0]; rfl
  obtain ⟨va2, vb2, rfl, i1, i2⟩ := H2.out
  obtain ⟨va3, vb3, rfl, i3, i4⟩ := hv3
  obtain ⟨a1, e1, rfl, _, _⟩ := i1.shape
  obtain ⟨a2, e2, rfl, _, _⟩ := i2.shape
  obtain ⟨a3, e3, rfl, _, _⟩ := i3.shape
  obtain ⟨a4, e4, rfl, _, _⟩ := i4.shape
  have hb13 := hb2'.out.trans (hb3.mono hb2'.out.size)
  have hbr := BR1.out.after hb13
  obtain ⟨r0, r1, r2, r3, r4, r5, r6, r7⟩ := hbr.cells8
  have f0 := hbr.frozen 0
  have f1 := hbr.frozen 1
  have f2 := hbr.frozen 2
  have f3 := hbr.frozen 3
  have f4 := hbr.frozen 4
  have f5 := hbr.frozen 5
  have f6 := hbr.frozen 6
  have f7 := hbr.frozen 7
  have BR3 := Lib.hid hbr
  have HB3 := Lib.hid (HB1.out.trans (hb13.mono HB1.out.size))
  have S1 := Lib.hid (HS1.out.after hb13)
  have S2 := Lib.hid (HS2.out.after hb13)
  have I1 := Lib.hid (i1.after hb3)
  have I2 := Lib.hid (i2.after hb3)
  have I3 := Lib.hid i3
  have I4 := Lib.hid i4
  clear hbr hb13 i1 i2 i3 i4 hb3 hb2' H2 hx0 hy0 HS1 HS2 BR1
  go_wp2_with fail
  obtain ⟨g0, g1, g2, g3, g4, g5, g6, g7⟩ := (set8_box BR3.out (.slice (some ⟨W0.heap.size, 0, none⟩) 5 5) (.slice (some ⟨W0.heap.size + 1, 0, none⟩) 3 3) (.bool x0.neg) (.slice a1 x0.num.length e1) (.slice a2 x0.den.length e2) (.bool y0.neg) (.slice a3 y0.num.length e3) (.slice a4 y0.den.length e4)).cells8
  refine bodyPost_ret (v := .agg #[.slice (some ⟨W0.heap.size, 0, none⟩) 5 5, .slice (some ⟨W0.heap.size + 1, 0, none⟩) 3 3, .bool x0.neg, .slice a1 x0.num.length e1, .slice a2 x0.den.length e2, .bool y0.neg, .slice a3 y0.num.length e3, .slice a4 y0.den.length e4]) (by simp [results, Try.results22, go_sem, g0, g1, g2, g3, g4, g5, g6, g7]) rfl ?_
  have hg := set8_grown w3 w.heap.size (.slice (some ⟨W0.heap.size, 0, none⟩) 5 5) (.slice (some ⟨W0.heap.size + 1, 0, none⟩) 3 3) (.bool x0.neg) (.slice a1 x0.num.length e1) (.slice a2 x0.den.length e2) (.bool y0.neg) (.slice a3 y0.num.length e3) (.slice a4 y0.den.length e4)
  have hf := (Fx.refl (fun g => g = w.heap.size) w3).of hg rfl
  have hd := dull_ro BR3.out
  rw [hR.out]
  exact ⟨_, rfl, ⟨_, _, _, _, _, _, rfl, S1.out.fx hf hd, S2.out.fx hf hd, I1.out.fx hf hd.1, I2.out.fx hf hd.1, I3.out.fx hf hd.1, I4.out.fx hf hd.1⟩, HB3.out.trans (hf.toBelow HB3.out.size (fun g e => by rw [e]; exact Nat.le_refl _))⟩
end Go.Proofs.Ytjjefdkadgkhfaa

namespace Go.Proofs.Ytjjefdkadgkhfaa
open Go.RowKit Go.Shelf

theorem take_eq_succ {a b : List Dec} {i : Nat} {x y : Dec} (h : a.take i = b.take i) (hx : a[i]? = some x) (hy : b[i]? = some y) (he : x = y) : a.take (i + 1) = b.take (i + 1) := by
  rw [List.take_add_one, List.take_add_one, h, hx, hy, he]

end Go.Proofs.Ytjjefdkadgkhfaa
