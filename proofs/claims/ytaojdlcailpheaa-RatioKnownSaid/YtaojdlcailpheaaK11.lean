/- Walks of package ratio: the parts of a continued fraction, yielded one by one.
   Memory words, more: rows of numbers.
   Memory words, more: slices of ints and of bools; a rollout as a value.
   Walks of the library: slices.Clone of ints and of bools.
   Walks of package tails: trials, Choose, fraction, rate, checked.
   Walks of package tails: rate, checked. -/
import Derived.Test.YtaojdlcailpheaaK10
import Derived.TacticsIn
import Derived.BigFrameIn
import Derived.OwnWalkIn
import Derived.TacticsInMore
import Derived.LoopNIn
import Derived.LoopIn
import Derived.Test.YtaojdlcailpheaaK08
set_option linter.unusedVariables false
namespace Go.Proofs.Ytaojdlcailpheaa
open Go.RowKit

/-- What is yielded at part r. -/
def PartV (a b r : Nat) (args : Array Value) (W : World) : Prop := ∃ (x : Nat) (p : Option Addr) (c : Nat), (cf a b)[r]? = some x ∧ args = #[.slice p (limbs x).length c, .bool (decide (r + 1 = (cf a b).length))] ∧ Sl W (.slice p (limbs x).length c) (limbs x)
theorem cf_part {a b A B r : Nat} (h : cf A B = (cf a b).drop r) (hB : 0 < B) : r < (cf a b).length ∧ (cf a b)[r]? = some (A / B) ∧ (A % B = 0 → r + 1 = (cf a b).length) ∧ (A % B ≠ 0 → r + 1 < (cf a b).length ∧ cf B (A % B) = (cf a b).drop (r + 1)) := by
  have hlen := congrArg List.length h
  rw [List.length_drop] at hlen
  by_cases h0 : A % B = 0
  · rw [cf_last hB h0] at h hlen
    simp only [List.length_cons, List.length_nil] at hlen
    refine ⟨by omega, ?_, fun _ => by omega, fun e => absurd h0 e⟩
    have := congrArg (fun l => l[0]?) h
    simpa [List.getElem?_drop] using this.symm
  · rw [cf_more hB h0] at h hlen
    have hne : 0 < (cf B (A % B)).length := List.length_pos_iff.2 (cf_ne (by omega))
    simp only [List.length_cons] at hlen
    refine ⟨by omega, ?_, fun e => absurd e h0, fun _ => ⟨by omega, ?_⟩⟩
    · have := congrArg (fun l => l[0]?) h
      simpa [List.getElem?_drop] using this.symm
    · have := congrArg List.tail h
      rw [List.tail_cons, List.tail_drop] at this
      exact this

set_option maxRecDepth 100000 in
theorem parts_t (w : World) (p q : Option Addr) (n m c d : Nat) (s : Bool) :
    Calls Try.prog 85 #[.agg #[.bool s, .slice p n c, .slice q m d]] w
      fun e w' => e = .returned (.func (.func 109) #[] #[.pointer (some ⟨w.heap.size, 0, none⟩)]) ∧ w' = w.alloc (.cells #[.bool s, .slice p n c, .slice q m d] 25) := by
  go_enter Try.func85, Try.ntmps85
  go_wp2
  go_ret
  exact ⟨rfl, rfl⟩

set_option maxRecDepth 100000 in
set_option maxHeartbeats 4000000 in
theorem parts1_t (l q : Nat) (W1 : World) (B0 : Nat) (s : Bool) (p0 p1 : Option Addr) (c0 c1 a b : Nat) (hbx : Box W1 B0 #[.bool s, .slice p0 (limbs a).length c0, .slice p1 (limbs b).length c1] 25) (h1 : Sl W1 (.slice p0 (limbs a).length c0) (limbs a)) (h2 : Sl W1 (.slice p1 (limbs b).length c1) (limbs b)) (hb : 0 < b) (la : (limbs a).length ≤ 1000) (lb : (limbs b).length ≤ 1000)
    (J Y : Nat → World → Prop) (hJb : ∀ r W W', J r W → Below W.heap.size W W' → J r W') (hJ0 : J 0 W1)
    (hY : ∀ (r : Nat) (args : Array Value) (W : World), r < (cf a b).length → J r W → PartV a b r args W → YieldAt Fence.wide q Try.prog l args W fun e W' => (e = .returned (.bool true) ∧ J (r + 1) W' ∧ Limb W W') ∨ (e = .returned (.bool false) ∧ Y r W')) :
    Calls Try.prog 109 #[.func (.yield l) #[] #[], .pointer (some ⟨B0, 0, none⟩)] W1 fun e W' => (∃ v, e = .returned v) ∧ (J (cf a b).length W' ∨ ∃ r, r < (cf a b).length ∧ Y r W') := by
  have HJb := Lib.hid hJb
  have HJ0 := Lib.hid hJ0
  have HY := Lib.hid hY
  have H1 := Lib.hid h1
  have H2 := Lib.hid h2
  have mkS : Hid (∀ w', Below W1.heap.size W1 w' → w'.cell? ⟨B0, 1, none⟩ = some (.slice p0 (limbs a).length c0) ∧ w'.cell? ⟨B0, 2, none⟩ = some (.slice p1 (limbs b).length c1)) := fun w' hw => ⟨((hbx.after hw).cells3).2.1, ((hbx.after hw).cells3).2.2⟩
  have hlt := hbx.lt
  clear hJb hJ0 hY h1 h2 hbx
  obtain ⟨N, hN⟩ : ∃ N, (cf a b).length = N := ⟨_, rfl⟩
  have HN := Lib.hid hN
  rw [hN]
  rw [hN] at HY
  clear hN
  go_enter Try.func109, Try.ntmps109
  obtain ⟨k1, k2⟩ := mkS.out _ (Below.refl _ _)
  go_upto_region 0 with fail
  go_region_held3 (fun w' => w'.cell? ⟨B0, 1, none⟩ = some (.slice p0 (limbs a).length c0) ∧ w'.cell? ⟨B0, 2, none⟩ = some (.slice p1 (limbs b).length c1))
    (first | (refine mkS.out _ ?_; (repeat (first | with_reducible exact Below.refl _ _ | with_reducible refine below_dr ?_)); done))
    (fail)
  have hd : Below W1.heap.size W1 W1.drew := below_dr (Below.refl _ _)
  replace H1 : Hid (Sl W1.drew (.slice p0 (limbs a).length c0) (limbs a)) := H1.out.after hd
  replace H2 : Hid (Sl W1.drew (.slice p1 (limbs b).length c1) (limbs b)) := H2.out.after hd
  replace HJ0 : Hid (J 0 W1.drew) := HJb.out _ _ _ HJ0.out hd
  clear mkS hlt k1 k2
  obtain ⟨wz, hwz⟩ : ∃ wz : World, W1.drew = wz := ⟨_, rfl⟩
  rw [hwz] at H1 H2 HJ0 ⊢
  clear hwz hd
  obtain ⟨M, hM⟩ : ∃ M, max a b = M := ⟨_, rfl⟩
  have hMl : Hid (∀ x, x ≤ M → (limbs x).length ≤ 1000) := fun x hx => by
    rcases Nat.le_total a b with h | h
    · exact Nat.le_trans (limbs_len_mono (by omega)) lb
    · exact Nat.le_trans (limbs_len_mono (by omega)) la
  have haM : a ≤ M := by omega
  have hbM : b ≤ M := by omega
  clear hM la lb
  go_wp2_with fail
  go_loopg [3, 4] b (fun g t3 t4 wx => ∃ (r A B : Nat) (pa : Option Addr) (ca : Nat) (pb : Option Addr) (cb : Nat), g = B ∧ 0 < B ∧ A ≤ M ∧ B ≤ M ∧ t3 = .slice pa (limbs A).length ca ∧ t4 = .slice pb (limbs B).length cb ∧ Hid (Sl wx (.slice pa (limbs A).length ca) (limbs A)) ∧ Hid (Sl wx (.slice pb (limbs B).length cb) (limbs B)) ∧ Hid (cf A B = (cf a b).drop r) ∧ Hid (J r wx))
  case atStart => exact ⟨0, a, b, p0, c0, p1, c1, rfl, hb, haM, hbM, rfl, rfl, H1, H2, Lib.hid (by simp), HJ0⟩
  case round =>
    obtain ⟨r, A, B, pa, ca, pb, cb, hgB, hB, hA, hBM, rfl, rfl, hs1, hs2, hcf, hj⟩ := hrel
    obtain rfl := hgB.symm
    clear H1 H2 HJ0
    obtain ⟨q1, q2, q3, q4⟩ := cf_part hcf.out hB
    rw [HN.out] at q1 q3 q4
    have hlA := hMl.out A hA
    obtain ⟨qq, hqq⟩ : ∃ qq, A / B = qq := ⟨_, rfl⟩
    obtain ⟨rr, hrr⟩ : ∃ rr, A % B = rr := ⟨_, rfl⟩
    have hrlt : rr < B := by rw [← hrr]; exact Nat.mod_lt _ hB
    have hla : (limbs A).length ≤ 1000000 := by omega
    clear hlA
    rw [hqq] at q2
    rw [hrr] at q3 q4
    have Q2 := Lib.hid q2
    clear q2
    go_wp2_with fail
    refine (divide_c _ _ _ A B hs1.out hs2.out hB hla).mono ?_
    rw [hqq, hrr]
    rintro e w2 ⟨v1, v2, rfl, hv1, hv2, hb2⟩
    obtain ⟨pq, cq, rfl, _, _⟩ := hv1.shape
    obtain ⟨pr, cr, rfl, _, _⟩ := hv2.shape
    have HV1 := Lib.hid hv1
    have HV2 := Lib.hid hv2
    have HB2 := Lib.hid (hs2.out.after hb2)
    have HJ2 := Lib.hid (HJb.out _ _ _ hj.out hb2)
    clear hv1 hv2 hb2 hs1 hs2 hqq hrr hcf hj
    rcases Nat.eq_zero_or_pos rr with h0 | h0
    · have hlast : r + 1 = N := q3 h0
      have hz : ((limbs rr).length : Int) = 0 := by rw [h0, limbs_zero]; rfl
      obtain ⟨fn, tmps, asg, bdy, hy, hR⟩ := HY.out r #[.slice pq (limbs qq).length cq, .bool true] w2 q1 HJ2.out ⟨qq, pq, cq, Q2.out, by rw [HN.out, decide_eq_true hlast], HV1.out⟩
      have HLAST := Lib.hid hlast
      have HQ1 := Lib.hid q1
      clear h0 q3 q4 hlast
      go_upto_region 2 with fail
      refine (wpIn_wide (n := q + 1)).1 ?_
      gi_wp2
      refine hR.mono ?_
      rintro e W' (⟨rfl, hc, _⟩ | ⟨rfl, hyy⟩)
      · have HC := Lib.hid hc
        clear hR hy hc
        gi_wp2
        go_wp2_with fail
        refine bodyPost_ret (results_none rfl _ _ _) rfl ?_
        exact ⟨⟨_, rfl⟩, .inl (by rw [← HLAST.out]; exact HC.out)⟩
      · have HYY := Lib.hid hyy
        clear hyy hR hy
        gi_wp2
        go_wp2_with fail
        refine bodyPost_ret (results_none rfl _ _ _) rfl ?_
        exact ⟨⟨_, rfl⟩, .inr ⟨r, HQ1.out, HYY.out⟩⟩
    · have hp := limbs_len_pos h0
      have hz : (((limbs rr).length : Int) == 0) = false := beq_eq_false_iff_ne.2 (by omega)
      obtain ⟨hn1, hn2⟩ := q4 (by omega)
      obtain ⟨fn, tmps, asg, bdy, hy, hR⟩ := HY.out r #[.slice pq (limbs qq).length cq, .bool false] w2 q1 HJ2.out ⟨qq, pq, cq, Q2.out, by rw [HN.out, decide_eq_false (by omega)], HV1.out⟩
      have HCF := Lib.hid hn2
      have HQ1 := Lib.hid q1
      clear q3 q4 hn2
      go_upto_region 2 with fail
      refine (wpIn_wide (n := q + 1)).1 ?_
      gi_wp2
      refine hR.mono ?_
      rintro e W' (⟨rfl, hc, hlim⟩ | ⟨rfl, hyy⟩)
      · have HC := Lib.hid hc
        have HB3 := Lib.hid (HB2.out.lim hlim)
        have HV3 := Lib.hid (HV2.out.lim hlim)
        clear hR hy hc hlim
        gi_wp2
        go_wp2_with fail
        go_roundg rr
        case measure => omega
        case rel => exact ⟨r + 1, B, rr, pb, cb, pr, cr, rfl, h0, hBM, by omega, rfl, rfl, HB3, HV3, HCF, HC⟩
      · have HYY := Lib.hid hyy
        clear hyy hR hy
        gi_wp2
        go_wp2_with fail
        refine bodyPost_ret (results_none rfl _ _ _) rfl ?_
        exact ⟨⟨_, rfl⟩, .inr ⟨r, HQ1.out, HYY.out⟩⟩
end Go.Proofs.Ytaojdlcailpheaa

namespace Go.Proofs.Ytaojdlcailpheaa
open Go.RowKit

theorem infoN : (Try.prog.info? 23).map (fun i => (i.zero, i.size, i.bytes)) = some (some (.slice none 0 0), 1, 24) := by kernel_rfl
/-- A cell holds the number n. -/
def HasN (w : World) (b off n : Nat) : Prop := ∃ v, w.cell? ⟨b, off, none⟩ = some v ∧ Sl w v (limbs n)
theorem HasN.after {w w' : World} {b off n : Nat} (h : HasN w b off n) (hb : Below w.heap.size w w') : HasN w' b off n := by
  obtain ⟨v, h1, h2⟩ := h
  exact ⟨v, keep_cell hb h1, h2.after hb⟩
/-- The cells of block b from 0 on hold the numbers xs. -/
def RowN (w : World) (b : Nat) (xs : List Nat) : Prop := ∀ (i x : Nat), xs[i]? = some x → HasN w b i x
theorem RowN.after {w w' : World} {b : Nat} {xs : List Nat} (h : RowN w b xs) (hb : Below w.heap.size w w') : RowN w' b xs := fun i x hx => (h i x hx).after hb
theorem RowN.grown {w w' : World} {b : Nat} {xs : List Nat} {row : Option Nat} (h : RowN w b xs) (hg : w.grownBy w' row) (hne : some b ≠ row) (hr : ∀ g, row = some g → ¬ Tag32 w g) : RowN w' b xs := by
  intro i x hx
  obtain ⟨v, h1, h2⟩ := h i x hx
  exact ⟨v, hg.cell h1 hne, h2.grown hg hr⟩
/-- What the entries es of a row stand for. -/
def EntsN (w : World) (es : List Value) (xs : List Nat) : Prop := es.length = xs.length ∧ ∀ (i x : Nat), xs[i]? = some x → ∃ v, es[i]? = some v ∧ Sl w v (limbs x)
theorem EntsN.after {w w' : World} {es : List Value} {xs : List Nat} (h : EntsN w es xs) (hb : Below w.heap.size w w') : EntsN w' es xs :=
  ⟨h.1, fun i x hx => by obtain ⟨v, h1, h2⟩ := h.2 i x hx; exact ⟨v, h1, h2.after hb⟩⟩
theorem EntsN.grown {w w' : World} {es : List Value} {xs : List Nat} {row : Option Nat} (h : EntsN w es xs) (hg : w.grownBy w' row) (hr : ∀ g, row = some g → ¬ Tag32 w g) : EntsN w' es xs :=
  ⟨h.1, fun i x hx => by obtain ⟨v, h1, h2⟩ := h.2 i x hx; exact ⟨v, h1, h2.grown hg hr⟩⟩
theorem EntsN.nil (w : World) : EntsN w [] [] := ⟨rfl, fun i x h => by simp at h⟩
theorem EntsN.snoc {w : World} {es : List Value} {xs : List Nat} {x : Nat} {v : Value} (h : EntsN w es xs) (h1 : Sl w v (limbs x)) : EntsN w (es ++ [v]) (xs ++ [x]) := by
  refine ⟨by simp [h.1], fun i y hy => ?_⟩
  rcases Nat.lt_or_ge i xs.length with hi | hi
  · rw [List.getElem?_append_left hi] at hy
    obtain ⟨a, e1, e2⟩ := h.2 i y hy
    exact ⟨a, by rw [List.getElem?_append_left (by rw [h.1]; exact hi)]; exact e1, e2⟩
  · rw [List.getElem?_append_right hi] at hy
    have hi0 : i - xs.length = 0 := by
      rcases Nat.eq_zero_or_pos (i - xs.length) with h0 | h0
      · exact h0
      · rw [List.getElem?_eq_none (by simp; omega)] at hy; cases hy
    rw [hi0] at hy
    obtain rfl : x = y := by simpa using hy
    exact ⟨v, by rw [List.getElem?_append_right (by rw [h.1]; exact hi), h.1, hi0]; rfl, h1⟩
theorem ownsRow_one1 (w : World) {base : Nat} (t : TypeId) (hb : base ≤ w.heap.size) (x : Value) : (w.alloc (.cells #[x] t)).ownsRow base t 1 (.slice (some ⟨w.heap.size, 0, none⟩) 1 1) 1 [x] :=
  ⟨rfl, .inr ⟨w.heap.size, 1, #[x], rfl, hb, heap_alloc_new w _, Nat.le_refl _, by simp [maxLen], rfl, rfl⟩⟩
/-- An owned row of numbers reads as numbers. -/
theorem RowN.of_own {w : World} {base n m g cap : Nat} {t : TypeId} {es : List Value} {xs : List Nat} (h : w.ownsRow base t 1 (.slice (some ⟨g, 0, none⟩) m cap) n es) (he : EntsN w es xs) : RowN w g xs := by
  intro i x hx
  obtain ⟨v, e1, e2⟩ := he.2 i x hx
  have hc := h.cells (g := g) rfl
  have hadd : ∀ j, (⟨g, 0, none⟩ : Addr).add j = ⟨g, j, none⟩ := fun j => by unfold Addr.add; split <;> simp_all
  have c0 := hc _ _ e1
  rw [hadd] at c0
  exact ⟨v, c0, e2⟩
/-- Row i of Pascal's triangle up to place j. -/
def pasc (i j : Nat) : List Nat := (List.range j).map (ch i)
theorem pasc_len (i j : Nat) : (pasc i j).length = j := by unfold pasc; simp
theorem pasc_get {i j k : Nat} (h : k < j) : (pasc i j)[k]? = some (ch i k) := by
  unfold pasc; rw [List.getElem?_map, List.getElem?_range h]; rfl
theorem pasc_succ (i j : Nat) : pasc i j ++ [ch i j] = pasc i (j + 1) := by
  unfold pasc; rw [List.range_succ, List.map_append]; rfl
theorem pasc_one (i : Nat) : pasc i 1 = [1] := by
  show [ch i 0] = [1]
  rw [ch_zero]
theorem keep3z {W : World} {R X : Nat} {u0 u1 u2 a b c : Value} (h : R ≠ X) (hs : W.cell? ⟨X, 0, none⟩ = some a ∧ W.cell? ⟨X, 1, none⟩ = some b ∧ W.cell? ⟨X, 2, none⟩ = some c) :
    (((W.setCell ⟨R, 0, none⟩ u0).setCell ⟨R, 1, none⟩ u1).setCell ⟨R, 2, none⟩ u2).cell? ⟨X, 0, none⟩ = some a ∧ (((W.setCell ⟨R, 0, none⟩ u0).setCell ⟨R, 1, none⟩ u1).setCell ⟨R, 2, none⟩ u2).cell? ⟨X, 1, none⟩ = some b ∧
    (((W.setCell ⟨R, 0, none⟩ u0).setCell ⟨R, 1, none⟩ u1).setCell ⟨R, 2, none⟩ u2).cell? ⟨X, 2, none⟩ = some c := by
  have k : ∀ j, (((W.setCell ⟨R, 0, none⟩ u0).setCell ⟨R, 1, none⟩ u1).setCell ⟨R, 2, none⟩ u2).cell? ⟨X, j, none⟩ = W.cell? ⟨X, j, none⟩ := fun j => by
    rw [World.cell?_setCell_other _ _ _ _ (fun e => h (by injection e)), World.cell?_setCell_other _ _ _ _ (fun e => h (by injection e)), World.cell?_setCell_other _ _ _ _ (fun e => h (by injection e))]
  exact ⟨(k 0).trans hs.1, (k 1).trans hs.2.1, (k 2).trans hs.2.2⟩
end Go.Proofs.Ytaojdlcailpheaa

namespace Go.Proofs.Ytaojdlcailpheaa
open Go.RowKit

/-- Entry i of a list of ints. -/
def ati (l : List Int) (i : Nat) : Int := l.getD i 0
/-- Entry i of a list of bools. -/
def atb (l : List Bool) (i : Nat) : Bool := l.getD i false
theorem ati_get {l : List Int} {i : Nat} (h : i < l.length) : ati l i = l[i] := by simp [ati, List.getD, h]
theorem atb_get {l : List Bool} {i : Nat} (h : i < l.length) : atb l i = l[i] := by simp [atb, List.getD, h]
theorem ati_mem {l : List Int} {i : Nat} (h : i < l.length) : ati l i ∈ l := by rw [ati_get h]; exact List.getElem_mem h
def In64 (z : Int) : Prop := -9223372036854775808 ≤ z ∧ z ≤ 9223372036854775807
/-- The slice value v reads as the one-cell values cs. -/
def SlV (w : World) (v : Value) (cs : List Value) : Prop :=
  ∃ (a : Option Addr) (cap : Nat), v = .slice a cs.length cap ∧ cs.length ≤ cap ∧ cap ≤ 9223372036854775807 ∧ (a = none → cap = 0) ∧
    (0 < cs.length → ∃ b off, a = some ⟨b, off, none⟩ ∧ b < w.heap.size ∧ ∀ i c, cs[i]? = some c → w.cell? ⟨b, off + i, none⟩ = some c)
theorem SlV.below {B : Nat} {w w' : World} {v : Value} {cs : List Value} (h : SlV w v cs) (hb : Below B w w') (hB : w.heap.size ≤ B) : SlV w' v cs := by
  obtain ⟨a, cap, h1, h2, h3, h4, h5⟩ := h
  refine ⟨a, cap, h1, h2, h3, h4, fun hl => ?_⟩
  obtain ⟨b, off, e, hlt, hc⟩ := h5 hl
  exact ⟨b, off, e, Nat.lt_of_lt_of_le hlt hb.size, fun i c hi => (hb.cell (p := ⟨b, off + i, none⟩) (Nat.lt_of_lt_of_le hlt hB)).trans (hc i c hi)⟩
theorem SlV.after {w w' : World} {v : Value} {cs : List Value} (h : SlV w v cs) (hb : Below w.heap.size w w') : SlV w' v cs := h.below hb (Nat.le_refl _)
theorem SlV.alloc {w : World} {v : Value} {cs : List Value} (h : SlV w v cs) (o : Obj) : SlV (w.alloc o) v cs := h.after ((Below.refl _ w).alloc (Nat.le_refl _) o)
theorem SlV.nil (w : World) : SlV w (.slice none 0 0) [] := ⟨none, 0, rfl, by simp, by omega, fun _ => rfl, fun h => by simp at h⟩
theorem SlV.soft {w w' : World} {l : Nat} {v : Value} {cs : List Value} (h : SlV w v cs) (hs : Soft w l) (hg : w.grownBy w' (some l)) : SlV w' v cs := by
  obtain ⟨a, cap, h1, h2, h3, h4, h5⟩ := h
  refine ⟨a, cap, h1, h2, h3, h4, fun hl => ?_⟩
  obtain ⟨b, off, e, hlt, hc⟩ := h5 hl
  exact ⟨b, off, e, Nat.lt_of_lt_of_le hlt hg.size, fun i c hi => cell_soft (hc i c hi) hs hg⟩
/-- A part of what a slice reads. -/
theorem SlV.part {w : World} {b off len cap : Nat} {cs : List Value} (h : SlV w (.slice (some ⟨b, off, none⟩) len cap) cs) (n m : Nat) (hnm : n ≤ m) (hm : m ≤ len) : SlV w (.slice (some ⟨b, off + n, none⟩) (m - n) (cap - n)) ((cs.take m).drop n) := by
  obtain ⟨a, cap', h1, h2, h3, _, h5⟩ := h
  obtain ⟨rfl, rfl, rfl⟩ : some ⟨b, off, none⟩ = a ∧ len = cs.length ∧ cap = cap' := by simpa using h1
  have hl : ((cs.take m).drop n).length = m - n := by simp; omega
  refine ⟨_, _, by rw [hl], by rw [hl]; omega, by omega, (fun h => by cases h), fun hp => ?_⟩
  rw [hl] at hp
  obtain ⟨b', off', e, hlt, hc⟩ := h5 (by omega)
  injection e with e; injection e with e1 e2; subst e1; subst e2
  refine ⟨b, off + n, rfl, hlt, fun i c hi => ?_⟩
  rw [List.getElem?_drop, List.getElem?_take] at hi
  split at hi
  · rw [Nat.add_assoc]; exact hc _ _ hi
  · cases hi
/-- The slice value v reads as the ints l. -/
def SlI (w : World) (v : Value) (l : List Int) : Prop := (∀ z ∈ l, In64 z) ∧ SlV w v (l.map (Value.int .i64))
/-- The slice value v reads as the bools l. -/
def SlB (w : World) (v : Value) (l : List Bool) : Prop := SlV w v (l.map Value.bool)
section
variable {w w' : World} {v : Value} {l : List Int} {bs : List Bool}
theorem SlI.after (h : SlI w v l) (hb : Below w.heap.size w w') : SlI w' v l := ⟨h.1, h.2.after hb⟩
theorem SlB.after (h : SlB w v bs) (hb : Below w.heap.size w w') : SlB w' v bs := SlV.after h hb
theorem SlI.alloc (h : SlI w v l) (o : Obj) : SlI (w.alloc o) v l := ⟨h.1, h.2.alloc o⟩
theorem SlB.alloc (h : SlB w v bs) (o : Obj) : SlB (w.alloc o) v bs := SlV.alloc h o
theorem SlI.soft {n : Nat} (h : SlI w v l) (hs : Soft w n) (hg : w.grownBy w' (some n)) : SlI w' v l := ⟨h.1, h.2.soft hs hg⟩
theorem SlB.soft {n : Nat} (h : SlB w v bs) (hs : Soft w n) (hg : w.grownBy w' (some n)) : SlB w' v bs := SlV.soft h hs hg
theorem SlI.nil (w : World) : SlI w (.slice none 0 0) [] := ⟨by simp, SlV.nil w⟩
theorem SlB.nil (w : World) : SlB w (.slice none 0 0) [] := SlV.nil w
theorem SlI.shape (h : SlI w v l) : ∃ a cap, v = .slice a l.length cap ∧ l.length ≤ cap ∧ cap ≤ 9223372036854775807 ∧ (a = none → cap = 0) := by
  obtain ⟨_, a, cap, h1, h2, h3, h4, _⟩ := h
  rw [List.length_map] at h1 h2
  exact ⟨a, cap, h1, h2, h3, h4⟩
theorem SlB.shape (h : SlB w v bs) : ∃ a cap, v = .slice a bs.length cap ∧ bs.length ≤ cap ∧ cap ≤ 9223372036854775807 ∧ (a = none → cap = 0) := by
  obtain ⟨a, cap, h1, h2, h3, h4, _⟩ := h
  rw [List.length_map] at h1 h2
  exact ⟨a, cap, h1, h2, h3, h4⟩
theorem SlI.cells {a : Option Addr} {n cap : Nat} (h : SlI w (.slice a n cap) l) (hp : 0 < l.length) : ∃ b off, a = some ⟨b, off, none⟩ ∧ b < w.heap.size ∧ ∀ i, i < l.length → w.cell? ⟨b, off + i, none⟩ = some (.int .i64 (ati l i)) := by
  obtain ⟨_, a', cap', h1, _, _, _, h5⟩ := h
  obtain ⟨rfl, _, _⟩ : a = a' ∧ n = (l.map (Value.int .i64)).length ∧ cap = cap' := by injection h1 with e1 e2 e3; exact ⟨e1, e2, e3⟩
  obtain ⟨b, off, e, hlt, hc⟩ := h5 (by simpa using hp)
  exact ⟨b, off, e, hlt, fun i hi => hc i _ (by rw [List.getElem?_map, List.getElem?_eq_getElem hi, ati_get hi]; rfl)⟩
theorem SlB.cells {a : Option Addr} {n cap : Nat} (h : SlB w (.slice a n cap) bs) (hp : 0 < bs.length) : ∃ b off, a = some ⟨b, off, none⟩ ∧ b < w.heap.size ∧ ∀ i, i < bs.length → w.cell? ⟨b, off + i, none⟩ = some (.bool (atb bs i)) := by
  obtain ⟨a', cap', h1, _, _, _, h5⟩ := h
  obtain ⟨rfl, _, _⟩ : a = a' ∧ n = (bs.map Value.bool).length ∧ cap = cap' := by injection h1 with e1 e2 e3; exact ⟨e1, e2, e3⟩
  obtain ⟨b, off, e, hlt, hc⟩ := h5 (by simpa using hp)
  exact ⟨b, off, e, hlt, fun i hi => hc i _ (by rw [List.getElem?_map, List.getElem?_eq_getElem hi, atb_get hi]; rfl)⟩
theorem SlI.part {b off len cap : Nat} (h : SlI w (.slice (some ⟨b, off, none⟩) len cap) l) (n m : Nat) (hnm : n ≤ m) (hm : m ≤ len) : SlI w (.slice (some ⟨b, off + n, none⟩) (m - n) (cap - n)) ((l.take m).drop n) := by
  refine ⟨fun z hz => h.1 z (List.mem_of_mem_take (List.mem_of_mem_drop hz)), ?_⟩
  rw [List.map_drop, List.map_take]
  exact h.2.part n m hnm hm
theorem SlB.part {b off len cap : Nat} (h : SlB w (.slice (some ⟨b, off, none⟩) len cap) bs) (n m : Nat) (hnm : n ≤ m) (hm : m ≤ len) : SlB w (.slice (some ⟨b, off + n, none⟩) (m - n) (cap - n)) ((bs.take m).drop n) := by
  unfold SlB
  rw [List.map_drop, List.map_take]
  exact SlV.part h n m hnm hm
theorem SlB.front {a : Option Addr} {len cap : Nat} (h : SlB w (.slice a len cap) bs) (m : Nat) (hm : m ≤ len) : SlB w (.slice a m cap) (bs.take m) := by
  obtain ⟨a', cap', h1, h2, h3, h4, h5⟩ := h
  obtain ⟨rfl, rfl, rfl⟩ : a = a' ∧ len = (bs.map Value.bool).length ∧ cap = cap' := by injection h1 with e1 e2 e3; exact ⟨e1, e2, e3⟩
  rw [List.length_map] at hm h2 h5
  have hl : (bs.take m).length = m := by rw [List.length_take]; omega
  refine ⟨a, cap, by rw [List.length_map, hl], by rw [List.length_map, hl]; omega, h3, h4, fun hp => ?_⟩
  rw [List.length_map, hl] at hp
  obtain ⟨b, off, e, hlt, hc⟩ := h5 (by omega)
  refine ⟨b, off, e, hlt, fun i c hi => hc i c ?_⟩
  rw [List.getElem?_map, List.getElem?_take] at hi
  rw [List.getElem?_map]
  split at hi
  · exact hi
  · cases hi
end
/-- A rollout. -/
structure Ro where
  hosts : List Int
  waves : List Int
  rate : F
  bound : F
/-- The value v is the rollout R. -/
def IsR (w : World) (v : Value) (R : Ro) : Prop := ∃ vh vw va vb vc vd, v = .agg #[vh, vw, .bool R.rate.neg, va, vb, .bool R.bound.neg, vc, vd] ∧ SlI w vh R.hosts ∧ SlI w vw R.waves ∧ Sl w va R.rate.num ∧ Sl w vb R.rate.den ∧ Sl w vc R.bound.num ∧ Sl w vd R.bound.den
theorem IsR.after {w w' : World} {v : Value} {R : Ro} (h : IsR w v R) (hb : Below w.heap.size w w') : IsR w' v R := by
  obtain ⟨vh, vw, va, vb, vc, vd, e, h1, h2, h3, h4, h5, h6⟩ := h
  exact ⟨vh, vw, va, vb, vc, vd, e, h1.after hb, h2.after hb, h3.after hb, h4.after hb, h5.after hb, h6.after hb⟩
theorem Sl.soft {w w' : World} {v : Value} {l : List Nat} {n : Nat} (h : Sl w v l) (hs : Soft w n) (hg : w.grownBy w' (some n)) : Sl w' v l := h.grown hg hs.noTag
theorem IsR.soft {w w' : World} {v : Value} {R : Ro} {n : Nat} (h : IsR w v R) (hs : Soft w n) (hg : w.grownBy w' (some n)) : IsR w' v R := by
  obtain ⟨vh, vw, va, vb, vc, vd, e, h1, h2, h3, h4, h5, h6⟩ := h
  exact ⟨vh, vw, va, vb, vc, vd, e, h1.soft hs hg, h2.soft hs hg, h3.soft hs hg, h4.soft hs hg, h5.soft hs hg, h6.soft hs hg⟩
/-- The rollout's value, written out. -/
theorem IsR.open {w : World} {v : Value} {R : Ro} (h : IsR w v R) : ∃ (p0 p1 p2 p3 p4 p5 : Option Addr) (c0 c1 c2 c3 c4 c5 : Nat),
    v = .agg #[.slice p0 R.hosts.length c0, .slice p1 R.waves.length c1, .bool R.rate.neg, .slice p2 R.rate.num.length c2, .slice p3 R.rate.den.length c3, .bool R.bound.neg, .slice p4 R.bound.num.length c4, .slice p5 R.bound.den.length c5] ∧
    SlI w (.slice p0 R.hosts.length c0) R.hosts ∧ SlI w (.slice p1 R.waves.length c1) R.waves ∧ IsF w (.agg #[.bool R.rate.neg, .slice p2 R.rate.num.length c2, .slice p3 R.rate.den.length c3]) R.rate ∧
    IsF w (.agg #[.bool R.bound.neg, .slice p4 R.bound.num.length c4, .slice p5 R.bound.den.length c5]) R.bound := by
  obtain ⟨vh, vw, va, vb, vc, vd, rfl, h1, h2, h3, h4, h5, h6⟩ := h
  obtain ⟨p0, c0, rfl, _⟩ := h1.shape
  obtain ⟨p1, c1, rfl, _⟩ := h2.shape
  obtain ⟨p2, c2, rfl, _, _⟩ := h3.shape
  obtain ⟨p3, c3, rfl, _, _⟩ := h4.shape
  obtain ⟨p4, c4, rfl, _, _⟩ := h5.shape
  obtain ⟨p5, c5, rfl, _, _⟩ := h6.shape
  exact ⟨p0, p1, p2, p3, p4, p5, c0, c1, c2, c3, c4, c5, rfl, h1, h2, ⟨_, _, rfl, h3, h4⟩, ⟨_, _, rfl, h5, h6⟩⟩
/-- The eight cells of a rollout. -/
theorem Box.cells8 {w : World} {b : Nat} {x0 x1 x2 x3 x4 x5 x6 x7 : Value} {t : TypeId} (h : Box w b #[x0, x1, x2, x3, x4, x5, x6, x7] t) : w.cell? ⟨b, 0, none⟩ = some x0 ∧ w.cell? ⟨b, 1, none⟩ = some x1 ∧ w.cell? ⟨b, 2, none⟩ = some x2 ∧ w.cell? ⟨b, 3, none⟩ = some x3 ∧ w.cell? ⟨b, 4, none⟩ = some x4 ∧ w.cell? ⟨b, 5, none⟩ = some x5 ∧ w.cell? ⟨b, 6, none⟩ = some x6 ∧ w.cell? ⟨b, 7, none⟩ = some x7 :=
  ⟨h.cell 0, h.cell 1, h.cell 2, h.cell 3, h.cell 4, h.cell 5, h.cell 6, h.cell 7⟩
end Go.Proofs.Ytaojdlcailpheaa

namespace Go.Proofs.Ytaojdlcailpheaa
open Go.RowKit

/-- The slice v lies in memory from block B on. -/
def FreshFrom (B : Nat) (v : Value) : Prop := ∀ a n c, v = .slice (some a) n c → B ≤ a.block
theorem FreshFrom.nil (B : Nat) : FreshFrom B (.slice none 0 0) := fun a n c h => by cases h
theorem SlV.of_own {w : World} {base n : Nat} {t : TypeId} {v : Value} {cs : List Value} (h : w.ownsRow base t 1 v n cs) : SlV w v cs ∧ FreshFrom base v := by
  obtain ⟨h1, h2⟩ := h
  have hn : n = cs.length := by simpa using h1.symm
  subst hn
  rcases h2 with ⟨rfl, h0⟩ | ⟨g, cap, cur, rfl, hge, hg, h3, h4, h5, h6⟩
  · have : cs = [] := List.length_eq_zero_iff.1 h0
    subst this
    exact ⟨SlV.nil w, FreshFrom.nil _⟩
  · refine ⟨⟨some ⟨g, 0, none⟩, cap, rfl, h3, by simpa [maxLen] using h4, (fun h => by cases h), fun _ => ⟨g, 0, rfl, (Array.getElem?_eq_some_iff.1 hg).1, fun i c hi => ?_⟩⟩, fun a n c e => by injection e with e _ _; injection e with e; subst e; exact hge⟩
    have hl : i < cs.length := by
      rcases Nat.lt_or_ge i cs.length with h | h
      · exact h
      · rw [List.getElem?_eq_none h] at hi; cases hi
    rw [Nat.zero_add, cell_of_row w g i cur _ (0, 0) hg, ← Array.getElem?_toList]
    have h7 : (cur.toList.take (cs.length * 1))[i]? = cs[i]? := by rw [h6]
    rw [List.getElem?_take, if_pos (by omega)] at h7
    rw [h7, hi]
/-- A store elsewhere. -/
theorem SlV.setLow {w : World} {v : Value} {cs : List Value} {B : Nat} (h : SlV w v cs) (hf : FreshFrom B v) {p : Addr} (hp : p.block < B) (u : Value) : SlV (w.setCell p u) v cs := by
  obtain ⟨a, cap, h1, h2, h3, h4, h5⟩ := h
  refine ⟨a, cap, h1, h2, h3, h4, fun hl => ?_⟩
  obtain ⟨b, off, e, hlt, hc⟩ := h5 hl
  subst e
  have hB := hf _ _ _ h1
  simp only at hB
  refine ⟨b, off, rfl, by simpa [World.setCell] using hlt, fun i c hi => ?_⟩
  rw [← hc i c hi]
  exact World.cell?_setCell_other w p ⟨b, off + i, none⟩ u (fun e => by rw [e] at hp; simp only at hp; omega)
theorem SlI.setLow {w : World} {v : Value} {l : List Int} {B : Nat} (h : SlI w v l) (hf : FreshFrom B v) {p : Addr} (hp : p.block < B) (u : Value) : SlI (w.setCell p u) v l := ⟨h.1, h.2.setLow hf hp u⟩
theorem SlV.news {w : World} {ad : Addr} {n cap : Nat} {cs : List Value} (h : SlV w (.slice (some ad) n cap) cs) : ∀ j u, cs[j]? = some u → w.cell? (ad.add j) = some u := by
  obtain ⟨a', cap', h1, h2, h3, h4, h5⟩ := h
  intro j u hu
  have hj : j < cs.length := by
    rcases Nat.lt_or_ge j cs.length with hj | hj
    · exact hj
    · rw [List.getElem?_eq_none hj] at hu; cases hu
  obtain ⟨b, off, ha, hlt, hc⟩ := h5 (by omega)
  obtain ⟨rfl, _, _⟩ : some ad = a' ∧ n = cs.length ∧ cap = cap' := by injection h1 with e1 e2 e3; exact ⟨e1, e2, e3⟩
  obtain rfl : ad = ⟨b, off, none⟩ := by injection ha
  have hadd : (⟨b, off, none⟩ : Addr).add j = ⟨b, off + j, none⟩ := by unfold Addr.add; split <;> simp_all
  rw [hadd, hc j u hu]
theorem infoInt : (Try.prog.info? 3).map (fun i => (i.zero, i.size, i.bytes)) = some (some (.int .i64 0), 1, 8) := by kernel_rfl
theorem infoBool : (Try.prog.info? 4).map (fun i => (i.zero, i.size, i.bytes)) = some (some (.bool false), 1, 1) := by kernel_rfl

end Go.Proofs.Ytaojdlcailpheaa

namespace Go.Proofs.Ytaojdlcailpheaa
open Go.RowKit

/-- n is a number of trials, and k from 0 to most. -/
def trialsB (n k most : Int) : Bool := decide (0 ≤ n) && decide (n ≤ 64) && decide (0 ≤ k) && decide (k ≤ most)
theorem trialsB_iff {n k most : Int} : trialsB n k most = true ↔ 0 ≤ n ∧ n ≤ 64 ∧ 0 ≤ k ∧ k ≤ most := by unfold trialsB; simp [and_assoc]

theorem run_field1 (w : World) (b : Bool) (p q : Option Addr) (n m c d : Nat) :
    Sem.run Try.prog (Instr.field 25 (.agg #[.bool b, .slice p n c, .slice q m d]) 1) w = .ok (.slice p n c) w := by kernel_rfl
attribute [local go_sem ↓] run_field1
/-- What Choose returns. -/
def chooseF (n k : Int) : List Nat × Int := if trialsB n k n = true then (limbs (ch n.toNat k.toNat), 0) else ([], 2)
/-- A number and an error. -/
def RetN (w : World) (r : List Nat × Int) (e : Ending) (w' : World) : Prop := ∃ v, e = .returned (.tuple #[v, .int .i64 r.2]) ∧ Sl w' v r.1 ∧ Below w.heap.size w w'

theorem start1 (w : World) (A : Array Value) (t : TypeId) : ∃ W0, W0 = w.alloc (.cells A t) ∧ Box W0 w.heap.size A t ∧ w.heap.size < W0.heap.size ∧ Below w.heap.size w W0 :=
  ⟨_, rfl, Box.new w A t, by simp, (Below.refl _ w).alloc (Nat.le_refl _) _⟩

/-- An error and nothing else. -/
def RetE (w : World) (n : Int) (e : Ending) (w' : World) : Prop := e = .returned (.int .i64 n) ∧ Below w.heap.size w w'
/-- The error of a fraction from 0 to 1. -/
noncomputable def fracE (x : F) : Int := open Classical in if ValidF x then (if x.neg = true ∨ val x.den < val x.num then 2 else 0) else 1
theorem fracE_no {x : F} (h : ¬ ValidF x) : fracE x = 1 := by unfold fracE; rw [if_neg h]
theorem fracE_yes {x : F} (h : ValidF x) : fracE x = if x.neg = true ∨ val x.den < val x.num then 2 else 0 := by unfold fracE; rw [if_pos h]
theorem cmp_one {x : F} (h : ValidF x) (hn : x.neg = false) : (cmpF x (Wh 1)).1 = if val x.num < val x.den then -1 else if val x.num = val x.den then 0 else 1 := by
  have h1 : (limbs 1).length ≤ 32 := by rw [limbs_one_len]; omega
  have e1 : val (Wh 1).num = 1 := val_limbs 1
  have e2 : val (Wh 1).den = 1 := val_limbs 1
  have e3 : (Wh 1).neg = false := rfl
  rw [cmpF_yes ⟨h, valid_wh h1⟩, hn, e1, e2, e3]
  unfold ordN
  rw [if_pos rfl, if_neg (by simp), Nat.mul_one, Nat.one_mul]

end Go.Proofs.Ytaojdlcailpheaa

namespace Go.Proofs.Ytaojdlcailpheaa
open Go.RowKit

/-- The error of a rate. -/
noncomputable def rateE (x : F) : Int := open Classical in if fracE x = 0 then (if 1000 < val x.den then 2 else 0) else fracE x
theorem rateE_bad {x : F} (h : fracE x ≠ 0) : rateE x = fracE x := by unfold rateE; rw [if_neg h]
theorem rateE_good {x : F} (h : fracE x = 0) : rateE x = if 1000 < val x.den then 2 else 0 := by unfold rateE; rw [if_pos h]
theorem fracE_zero {x : F} (h : fracE x = 0) : ValidF x ∧ x.neg = false ∧ val x.num ≤ val x.den := by
  by_cases hv : ValidF x
  · rw [fracE_yes hv] at h
    by_cases hc : x.neg = true ∨ val x.den < val x.num
    · rw [if_pos hc] at h; omega
    · refine ⟨hv, ?_, ?_⟩
      · cases hx : x.neg
        · rfl
        · exact absurd (.inl hx) hc
      · rcases Nat.lt_or_ge (val x.den) (val x.num) with h1 | h1
        · exact absurd (.inr h1) hc
        · exact h1
  · rw [fracE_no hv] at h; omega
theorem fracE_cases (x : F) : fracE x = 0 ∨ fracE x = 1 ∨ fracE x = 2 := by
  by_cases hv : ValidF x
  · rw [fracE_yes hv]; split
    · exact .inr (.inr rfl)
    · exact .inl rfl
  · rw [fracE_no hv]; exact .inr (.inl rfl)

/-- The error of a rate and numbers. -/
noncomputable def checkE (x : F) (good : Bool) : Int := if rateE x = 0 then (if good = true then 0 else 2) else rateE x
theorem rateE_cases (x : F) : rateE x = 0 ∨ rateE x = 1 ∨ rateE x = 2 := by
  by_cases h : fracE x = 0
  · rw [rateE_good h]; split
    · exact .inr (.inr rfl)
    · exact .inl rfl
  · rw [rateE_bad h]; exact fracE_cases x

end Go.Proofs.Ytaojdlcailpheaa
