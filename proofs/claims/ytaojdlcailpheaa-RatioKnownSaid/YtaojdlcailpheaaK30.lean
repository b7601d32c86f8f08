/- Fractions that come in as arguments: their rows may lie in memory of whatever type. What the statements' own() makes of them.
   Regions that draw their order, by an invariant: variables that are laid and filled with fractions, in general. -/
import Derived.Test.YtaojdlcailpheaaK19
import Derived.Test.YtaojdlcailpheaaK29
import Derived.Lib.SmallJoins
import Derived.Test.YtaojdlcailpheaaK24
set_option linter.unusedVariables false
namespace Go.Proofs.Ytaojdlcailpheaa
open Go.RowKit

/-- As Sl, of an argument: nothing is asked of the type of the memory that it lies in. -/
def SlA (w : World) (v : Value) (l : List Nat) : Prop :=
  Lb l ∧ ∃ (a : Option Addr) (cap : Nat), v = .slice a l.length cap ∧ l.length ≤ cap ∧ cap ≤ 9223372036854775807 ∧ (a = none → cap = 0) ∧
    (0 < l.length → ∃ b off, a = some ⟨b, off, none⟩ ∧ b < w.heap.size ∧ ∀ i, i < l.length → w.cell? ⟨b, off + i, none⟩ = some (.int .u32 ((lim l i : Nat) : Int)))
theorem SlA.after {w w' : World} {v : Value} {l : List Nat} (h : SlA w v l) (hb : Below w.heap.size w w') : SlA w' v l := by
  obtain ⟨h0, a, cap, h1, h2, h3, h5, h6⟩ := h
  refine ⟨h0, a, cap, h1, h2, h3, h5, fun hl => ?_⟩
  obtain ⟨b, off, ha, hlt, hc⟩ := h6 hl
  exact ⟨b, off, ha, Nat.lt_of_lt_of_le hlt hb.size, fun i hi => keep_cell hb (hc i hi)⟩
theorem SlA.alloc {w : World} {v : Value} {l : List Nat} (h : SlA w v l) (o : Obj) : SlA (w.alloc o) v l := h.after ((Below.refl _ w).alloc (Nat.le_refl _) o)
theorem SlA.shape {w : World} {v : Value} {l : List Nat} (h : SlA w v l) : ∃ a cap, v = .slice a l.length cap ∧ l.length ≤ cap ∧ cap ≤ 9223372036854775807 := by
  obtain ⟨_, a, cap, h1, h2, h3, _, _⟩ := h
  exact ⟨a, cap, h1, h2, h3⟩
theorem SlA.cut {w : World} {p : Option Addr} {c : Nat} {l : List Nat} (h : SlA w (.slice p l.length c) l) : SlA w (.slice p (min (l.length : Int) 34).toNat c) (l.take 34) := by
  obtain ⟨h0, a, cap, h1, h2, h3, h5, h6⟩ := h
  obtain ⟨rfl, rfl⟩ : p = a ∧ c = cap := by injection h1 with e1 _ e3; exact ⟨e1, e3⟩
  have hn : (min (l.length : Int) 34).toNat = (l.take 34).length := by rw [List.length_take]; omega
  refine ⟨h0.take 34, p, c, by rw [hn], by rw [List.length_take]; omega, h3, h5, fun hl => ?_⟩
  rw [List.length_take] at hl
  obtain ⟨b, off, ha, hlt, hc⟩ := h6 (by omega)
  refine ⟨b, off, ha, hlt, fun i hi => ?_⟩
  rw [List.length_take] at hi
  rw [lim_take (by omega)]
  exact hc i (by omega)
theorem SlA.news {w : World} {ad : Addr} {n cap : Nat} {l : List Nat} (h : SlA w (.slice (some ad) n cap) l) : ∀ j u, (l.map u32)[j]? = some u → w.cell? (ad.add j) = some u := by
  obtain ⟨_, a, c, h1, _, _, _, h6⟩ := h
  obtain rfl : some ad = a := by injection h1
  intro j u hj
  have hl : j < l.length := by
    rcases Nat.lt_or_ge j l.length with h | h
    · exact h
    · rw [List.getElem?_eq_none (by simpa using h)] at hj; cases hj
  obtain ⟨b, off, ha, _, hc⟩ := h6 (by omega)
  obtain rfl : ad = ⟨b, off, none⟩ := by injection ha
  have hadd : (⟨b, off, none⟩ : Addr).add j = ⟨b, off + j, none⟩ := by unfold Addr.add; split <;> simp_all
  rw [hadd, hc j hl]
  rw [List.getElem?_map, List.getElem?_eq_getElem hl] at hj
  rw [lim_get hl]
  exact hj
/-- As IsF, of an argument. -/
def IsFA (w : World) (v : Value) (x : F) : Prop := ∃ va vb, v = .agg #[.bool x.neg, va, vb] ∧ SlA w va x.num ∧ SlA w vb x.den
theorem IsFA.after {w w' : World} {v : Value} {x : F} (h : IsFA w v x) (hb : Below w.heap.size w w') : IsFA w' v x := by
  obtain ⟨va, vb, e, h1, h2⟩ := h
  exact ⟨va, vb, e, h1.after hb, h2.after hb⟩

set_option maxHeartbeats 1000000 in
theorem clone_a (w : World) (va : Value) (a : List Nat) (h : SlA w va a) (ha : a.length ≤ 1000000) :
    Calls Try.prog 83 #[va] w fun e w' => ∃ v, e = .returned v ∧ Sl w' v a ∧ Below w.heap.size w w' := by
  have hs := h
  obtain ⟨h0, p, cap, rfl, h2, h3, h5, h6⟩ := h
  rcases p with _ | ad
  · have hz := h5 rfl
    have hl : a = [] := List.length_eq_zero_iff.1 (by omega)
    subst hl; subst hz
    have hnil := fun W : World => Lib.run_eql_slice_nil (P := Try.prog) W 23 51 none 0 0 0 0 Try.underlying23
    clear hs h6 h5
    go_enter Try.func83, Try.ntmps83
    go_wp2
    go_ret
    exact ⟨_, rfl, Sl.nil w, Below.refl _ w⟩
  · have hnil := fun W : World => Lib.run_eql_slice_nil (P := Try.prog) W 23 51 (some ad) a.length cap 0 0 Try.underlying23
    have hown := World.ownsRow_made (e := 51) (size := 1) (base := w.heap.size) w #[] 0 (Nat.le_refl _) (by simp) (by simp)
    have hnews := (hs.alloc (.cells #[] 51)).news
    obtain ⟨i0, hi, hz0, hz1, hz2⟩ := info_parts info32
    have HOWN := Lib.hid hown
    have HNEWS := Lib.hid hnews
    have hlm : maxLen = 9223372036854775807 := rfl
    have HLM := Lib.hid hlm
    clear hs h6 h5 hown hnews hlm
    go_enter Try.func83, Try.ntmps83
    go_wp2_with (at_builtin; refine wpList_append_own _ rfl _ _ 23 rfl w.heap.size 51 i0 (.int .u32 0) 1 4 Try.underlying23 hi hz0 hz1 hz2 rfl (by decide) _ _ _ rfl HOWN.out ad a.length cap (a.map u32) rfl ?c1 HNEWS.out ?c3 ?c4 ?c5 ?c6 ?_)
    case c1 => simp
    case c3 => exact fun u hu => one_u32 hu
    case c4 => rw [HLM.out]; omega
    case c5 => omega
    case c6 => simp
    intro v' w1 hown' hgrow _
    have hs' := Sl.of_own (l := a) hown' h0
    have HS := Lib.hid hs'
    clear hs' hown'
    go_wp2
    go_ret
    exact ⟨_, rfl, HS.out, ((Below.refl _ w).alloc (Nat.le_refl _) _).grown hgrow (by simp) (fun k hk => by simp [Value.ownBlock] at hk; omega)⟩

section
open Go.ChangeShapes
theorem cells_u32 : Try.prog.cellsOf 51 = 1 := by kernel_rfl
theorem cells_ratio : Try.prog.cellsOf 25 = 3 := by kernel_rfl
theorem u32_wf {n : Int} (h : (Lit.int .u32 n).wf = true) : 0 ≤ n ∧ n < 4294967296 := by
  have h1 : IntKind.u32.min = 0 := rfl
  have h2 : IntKind.u32.max = 4294967295 := rfl
  simp [Lit.wf, h1, h2] at h
  omega
theorem slA_of_arg {H : Type} {enc : TypeId × Value → H} {W : World} {n : Nat} {v : Value} {y : DataW H × List MemPlace} (h : DataW.trod enc Try.prog W 0 (fun _ => true) true n 23 [v] = some y) : ∃ l, SlA W v l := by
  rcases open_ints Try.underlying23 Try.underlying51 cells_u32 h with ⟨hc, _⟩ | ⟨a, len, cap, zs, hc, _, hl, hm, hz, _, hcell, hw⟩
  · obtain rfl : v = .slice none 0 0 := by simpa using hc
    exact ⟨[], Lb.nil, none, 0, rfl, Nat.le_refl _, by omega, fun _ => rfl, fun h => absurd h (by simp)⟩
  · obtain rfl : v = .slice (some a) len cap := by simpa using hc
    simp at hz
    have hlen : ((zs.take len).map Int.toNat).length = len := by simp; omega
    refine ⟨(zs.take len).map Int.toNat, ?_, some a, cap, by rw [hlen], by rw [hlen]; exact hl, by unfold maxLen at hm; exact hm, (fun h => by cases h), fun h0 => ?_⟩
    · intro x hx
      obtain ⟨z, hz', rfl⟩ := List.mem_map.1 hx
      have := u32_wf (hw z (List.mem_of_mem_take hz'))
      omega
    · rw [hlen] at h0
      have hs : a.spot = none := by
        have := hcell 0 (by omega)
        simpa [Addr.add] using World.cell?_spot this
      obtain ⟨b, off, spot⟩ := a
      simp only at hs
      subst hs
      have hadd : ∀ j, (⟨b, off, none⟩ : Addr).add j = ⟨b, off + j, none⟩ := fun j => by unfold Addr.add; split <;> simp_all
      refine ⟨b, off, rfl, ?_, fun i hi => ?_⟩
      · have := hcell 0 (by omega)
        rw [hadd] at this
        exact World.block_lt_of_cell? _ _ this
      · rw [hlen] at hi
        have := hcell i (by omega)
        rw [hadd] at this
        rw [this, lim_get (by rw [hlen]; exact hi)]
        have hb := u32_wf (hw zs[i] (List.getElem_mem _))
        simp [List.getD, show i < zs.length by omega]
        omega
set_option maxRecDepth 100000 in
/-- An argument that is a fraction. -/
theorem open_ratio {H : Type} {enc : TypeId × Value → H} {W : World} {base : Nat} {v : Value} {d : DataW H} {p : List MemPlace} (hv : Value.okWide Try.prog W .any base 25 v) (h : DataW.Trod enc Try.prog W 0 (fun _ => true) true 25 v d p) : ∃ x, IsFA W v x := by
  obtain ⟨v0, v1, v2, y0, y1, y2, n, rfl, _, _, h0, h1, h2⟩ := Joins.open_agg3 Try.underlying25 (by kernel_rfl) cells_ratio hv h
  obtain ⟨b, hb, _⟩ := DataW.trod_bool Try.underlying4 h0
  obtain rfl : v0 = .bool b := by simpa using hb
  obtain ⟨l1, hl1⟩ := slA_of_arg h1
  obtain ⟨l2, hl2⟩ := slA_of_arg h2
  exact ⟨⟨b, l1, l2⟩, v1, v2, rfl, hl1, hl2⟩
end
end Go.Proofs.Ytaojdlcailpheaa

namespace Go.Proofs.Ytaojdlcailpheaa
open Go.RowKit

/-- A variable: the operation that lays it, the one that fills it, what it holds, its temporary. -/
structure VE where
  al : Nat
  st : Nat
  x : F
  t : Nat
def CV (W0 : World) (L : List VE) (l : Array Bool) (f : Nat → Value) (w : World) : Prop :=
  Below W0.heap.size W0 w ∧ (∀ e ∈ L, up l e.al → Laid W0 l e.st e.x (f e.t) w) ∧ ∀ e ∈ L, ∀ e' ∈ L, e.t ≠ e'.t → up l e.al → up l e'.al → f e.t ≠ f e'.t
theorem CV.start {W0 : World} {L : List VE} {n : Nat} {f : Nat → Value} : CV W0 L (Array.replicate n false) f W0.drew :=
  ⟨below_dr (Below.refl _ _), fun _ _ h => absurd h (up_none _ _), fun _ _ _ _ _ h => absurd h (up_none _ _)⟩
section
variable {W0 : World} {L : List VE} {l : Array Bool} {f g : Nat → Value} {w w' : World}
theorem CV.keep {i : Nat} (h : CV W0 L l f w) (hb : Below w.heap.size w w') (hi : ∀ e ∈ L, e.al ≠ i ∧ e.st ≠ i) (hg : ∀ e ∈ L, g e.t = f e.t) : CV W0 L (l.setIfInBounds i true) g w' := by
  obtain ⟨k1, k2, k3⟩ := h
  refine ⟨k1.trans (hb.mono k1.size), fun e he u => ?_, fun e he e' he' ht u u' => ?_⟩
  · rw [hg e he]; exact (k2 e he (up_set u (hi e he).1)).keep hb (hi e he).2
  · rw [hg e he, hg e' he']; exact k3 e he e' he' ht (up_set u (hi e he).1) (up_set u' (hi e' he').1)
theorem CV.new {i : Nat} (h : CV W0 L l f w) (e0 : VE) (h0 : e0 ∈ L) (hal : e0.al = i) (hone : ∀ e ∈ L, e.t = e0.t → e = e0) (hali : ∀ e ∈ L, e.t ≠ e0.t → e.al ≠ i) (hst : ∀ e ∈ L, e.st ≠ i) (hn : ¬ up l e0.st)
    (e1 : g e0.t = .pointer (some ⟨w.heap.size, 0, none⟩)) (e2 : ∀ e ∈ L, e.t ≠ e0.t → g e.t = f e.t) :
    CV W0 L (l.setIfInBounds i true) g (w.alloc (.cells #[.bool false, .slice none 0 0, .slice none 0 0] 25)) := by
  obtain ⟨k1, k2, k3⟩ := h
  have hb : Below w.heap.size w (w.alloc (.cells #[.bool false, .slice none 0 0, .slice none 0 0] 25)) := held_alloc (Below.refl _ _)
  have hlt : ∀ e ∈ L, e.t ≠ e0.t → up (l.setIfInBounds i true) e.al → f e.t ≠ .pointer (some ⟨w.heap.size, 0, none⟩) := fun e he ht u => by
    obtain ⟨b, hb', _, hl, _⟩ := k2 e he (up_set u (hali e he ht))
    rw [hb']
    intro e
    injection e with e; injection e with e; injection e with e
    omega
  refine ⟨k1.trans (hb.mono k1.size), fun e he u => ?_, fun e he e' he' ht u u' => ?_⟩
  · by_cases hh : e.t = e0.t
    · obtain rfl := hone e he hh
      rw [e1]; exact Laid.new w W0 k1 hn (hst e h0)
    · rw [e2 e he hh]; exact (k2 e he (up_set u (hali e he hh))).keep hb (hst e he)
  · by_cases hh : e.t = e0.t
    · have hh' : e'.t ≠ e0.t := fun e => ht (hh.trans e.symm)
      rw [hh, e1, e2 e' he' hh']
      exact fun e => hlt e' he' hh' u' e.symm
    · by_cases hh' : e'.t = e0.t
      · rw [hh', e1, e2 e he hh]; exact hlt e he hh u
      · rw [e2 e he hh, e2 e' he' hh']; exact k3 e he e' he' ht (up_set u (hali e he hh)) (up_set u' (hali e' he' hh'))
theorem CV.put {i b : Nat} {va vb : Value} (h : CV W0 L l f w) (e0 : VE) (h0 : e0 ∈ L) (hst0 : e0.st = i) (hone : ∀ e ∈ L, e.t = e0.t → e = e0) (hsti : ∀ e ∈ L, e.t ≠ e0.t → e.st ≠ i) (hs : i < l.size) (hu : ∀ e ∈ L, up l e.al)
    (hb : f e0.t = .pointer (some ⟨b, 0, none⟩)) (hz : zeroB w b) (k : IsF w (.agg #[.bool e0.x.neg, va, vb]) e0.x) (e1 : ∀ e ∈ L, g e.t = f e.t) :
    CV W0 L (l.setIfInBounds i true) g (((w.setCell ⟨b, 0, none⟩ (.bool e0.x.neg)).setCell ⟨b, 1, none⟩ va).setCell ⟨b, 2, none⟩ vb) := by
  obtain ⟨k1, k2, k3⟩ := h
  have hW : W0.heap.size ≤ b := by obtain ⟨b', e, h2, _⟩ := k2 e0 h0 (hu e0 h0); rw [hb] at e; injection e with e; injection e with e; injection e with e; omega
  have hlt : b < w.heap.size := Box.lt hz
  have hf := fx_set3 (w := w) b (.bool e0.x.neg) va vb
  refine ⟨((k1.setCell hW _).setCell hW _).setCell hW _, fun e he u => ?_, fun e he e' he' ht u u' => ?_⟩
  · rw [e1 e he]
    by_cases hh : e.t = e0.t
    · obtain rfl := hone e he hh
      exact ⟨b, hb, hW, Nat.lt_of_lt_of_le hlt hf.size, fun _ => VarF.put hz k, fun g => absurd (show up _ e.st from by rw [hst0]; exact up_self hs) g⟩
    · obtain ⟨c, h1, h2, h3, h4, h5⟩ := k2 e he (hu e he)
      have hcb : ¬ c = b := fun e' => k3 e he e0 h0 hh (hu e he) (hu e0 h0) (by rw [hb, h1, e'])
      exact ⟨c, h1, h2, Nat.lt_of_lt_of_le h3 hf.size, fun g => (h4 (up_set g (hsti e he hh))).fxr hf hcb (Box.noT hz), fun g => Box.fx (h5 (fun g' => g (up_keep g'))) hf hcb⟩
  · rw [e1 e he, e1 e' he']; exact k3 e he e' he' ht (hu e he) (hu e' he')
theorem CV.done (h : CV W0 L l f w) (e : VE) (he : e ∈ L) (h1 : up l e.al) (h2 : up l e.st) : ∃ b, f e.t = .pointer (some ⟨b, 0, none⟩) ∧ W0.heap.size ≤ b ∧ VarF w b e.x := by
  obtain ⟨b, k1, k2, _, k4, _⟩ := h.2.1 e he h1
  exact ⟨b, k1, k2, k4 h2⟩
/-- What operations leave: fractions, and values that are told. -/
def SV (P : Nat → Option F) (Q : Nat → Option Value) (k : Nat) (v : Value) (w : World) : Prop := (∀ x, P k = some x → IsF w v x) ∧ ∀ u, Q k = some u → v = u
theorem SV.fx {P : Nat → Option F} {Q : Nat → Option Value} {k : Nat} {v : Value} {S : Nat → Prop} (h : SV P Q k v w) (hf : Fx S w w') (hr : ∀ g, S g → ¬ Tag32 w g) : SV P Q k v w' := ⟨fun x hx => (h.1 x hx).fxr hf hr, h.2⟩
theorem SV.keep {P : Nat → Option F} {Q : Nat → Option Value} {k : Nat} {v : Value} (h : SV P Q k v w) (hb : Below w.heap.size w w') : SV P Q k v w' := h.fx (S := fun _ => False) (Fx.of_below hb) (fun _ e => e.elim)
theorem SV.isF {P : Nat → Option F} {Q : Nat → Option Value} {k : Nat} {v : Value} {x : F} (hp : P k = some x) (hq : Q k = none) (h : IsF w v x) : SV P Q k v w := ⟨fun y hy => by rw [hp] at hy; injection hy with hy; exact hy ▸ h, fun u hu => by rw [hq] at hu; cases hu⟩
theorem SV.eq {P : Nat → Option F} {Q : Nat → Option Value} {k : Nat} {u : Value} (hp : P k = none) (hq : Q k = some u) : SV P Q k u w := ⟨fun y hy => (by rw [hp] at hy; cases hy), fun u' hu => (by rw [hq] at hu; injection hu)⟩
theorem SV.any {P : Nat → Option F} {Q : Nat → Option Value} {k : Nat} {u : Value} (hp : P k = none) (hq : Q k = none) : SV P Q k u w := ⟨fun y hy => (by rw [hp] at hy; cases hy), fun u' hu => (by rw [hq] at hu; cases hu)⟩
end
end Go.Proofs.Ytaojdlcailpheaa
