/- Walks of package ratio: Nearest, Int.
   Walks: slices.Reverse of bytes.
   Walks of package ratio: decimal.
   Walks of package ratio: Text. -/
import Derived.Test.YtaojdlcailpheaaK25
import Derived.Laws.BitsAllLaws
import Derived.Test.YtaojdlcailpheaaK06
import Derived.Test.YtaojdlcailpheaaK05
import Derived.BigRegion
import Derived.Test.YtaojdlcailpheaaK02
import Derived.Test.YtaojdlcailpheaaK08
import Derived.Laws.IdiomStrings
set_option linter.unusedVariables false
namespace Go.Proofs.Ytaojdlcailpheaa
open Go.RowKit

/-- Nearest, as a whole. -/
theorem Nearest_c (w : World) (v : Value) (x : F) (n : Int) (h : IsF w v x) (n0 : -9223372036854775808 ≤ n) (n1 : n ≤ 9223372036854775807) : Calls Try.prog 41 #[v, .int .i64 n] w (RetF w (nearF x n)) := by
  by_cases hv : ValidF x
  · obtain ⟨s, a, b, rfl, hok⟩ : ∃ s a b, x = fr s a b ∧ Ok s a b := ⟨_, _, _, hv.eq, hv.2.2⟩
    rw [nearF_fr hok]
    by_cases hn : n < 1 ∨ 1000 < n
    · rw [if_pos hn]; exact near_range w v s a b n h hok hn
    · rw [if_neg hn]
      obtain ⟨N, rfl⟩ : ∃ N : Nat, n = N := ⟨n.toNat, by omega⟩
      rw [Int.toNat_natCast]
      by_cases hb : b ≤ N
      · rw [if_pos hb]; exact near_small w v s a b N h hok (by omega) (by omega) hb
      · rw [if_neg hb]; exact near_big w v s a b N h hok (by omega) (by omega) hb
  · rw [nearF_no hv]; exact near_no w v x n h hv

/-- What Int returns. -/
noncomputable def intF (x : F) : Int × Int := open Classical in
  if ¬ ValidF x then (0, 1) else if val x.den ≠ 1 ∨ 2 < x.num.length then (0, 2)
  else if x.neg = true then (if val x.num ≤ 9223372036854775808 then (-(val x.num : Int), 0) else (0, 2)) else if val x.num < 9223372036854775808 then ((val x.num : Int), 0) else (0, 2)
theorem intF_no {x : F} (h : ¬ ValidF x) : intF x = (0, 1) := by unfold intF; rw [if_pos h]
theorem intF_fr {s : Bool} {a b : Nat} (h : Ok s a b) : intF (fr s a b) = if b ≠ 1 ∨ 2 < (limbs a).length then (0, 2) else if s = true then (if a ≤ 9223372036854775808 then (-(a : Int), 0) else (0, 2)) else if a < 9223372036854775808 then ((a : Int), 0) else (0, 2) := by
  unfold intF
  rw [if_neg (fun e => e (validF_fr.2 h))]
  simp only [fr, val_limbs]
/-- A function that returns an int and an error. -/
def RetIE (w : World) (r : Int × Int) (e : Ending) (w' : World) : Prop := e = .returned (.tuple #[.int .i64 r.1, .int .i64 r.2]) ∧ Below w.heap.size w w'
theorem lim_take_val {l : List Nat} (h : l.length ≤ 2) : (l.length ≤ 0 → val l = 0) ∧ (l.length = 1 → val l = lim l 0) ∧ (l.length = 2 → val l = lim l 0 + 4294967296 * lim l 1) := by
  match l with
  | [] => exact ⟨fun _ => rfl, fun h => by simp at h, fun h => by simp at h⟩
  | [x] => exact ⟨fun h => by simp at h, fun _ => (show x + 4294967296 * 0 = x by omega), fun h => by simp at h⟩
  | [x, y] => exact ⟨fun h => by simp at h, fun h => by simp at h, fun _ => (show x + 4294967296 * (y + 4294967296 * 0) = x + 4294967296 * y by omega)⟩
  | x :: y :: z :: t => simp at h
theorem or_zero_u64 (x : Nat) (h : x < 4294967296) : bits .or .u64 0 (x : Int) = (x : Int) := by
  have := u64_or_nat 0 x (by omega) (by omega)
  simpa using this
theorem or_high_u64 (x y : Nat) (hx : x < 4294967296) (hy : y < 4294967296) : bits .or .u64 (x : Int) ((y : Int) * 4294967296) = ((x + 4294967296 * y : Nat) : Int) := by
  have := u64_or_nat x (y * 4294967296) (by omega) (by omega)
  rw [show ((y * 4294967296 : Nat) : Int) = (y : Int) * 4294967296 from by omega] at this
  rw [this]
  congr 1
  rw [Nat.or_comm, show y * 4294967296 = y <<< 32 from by rw [Nat.shiftLeft_eq], ← Nat.shiftLeft_add_eq_or_of_lt (by omega : x < 2 ^ 32), Nat.shiftLeft_eq]
  omega

theorem neg_i64 {n : Nat} (h : n ≤ 9223372036854775808) : Go.RowKit.wrap64 (IntKind.u64.wrap (-(n : Int))) = -(n : Int) := by
  unfold Go.RowKit.wrap64
  rw [IntKind.wrap_u64]
  omega

set_option maxRecDepth 100000 in
set_option maxHeartbeats 4000000 in
theorem Int_c (w : World) (v : Value) (x : F) (h : IsF w v x) : Calls Try.prog 37 #[v] w (RetIE w (intF x)) := by
  have HX := h
  obtain ⟨va, vb, rfl, h1, h2⟩ := h
  obtain ⟨p0, k0, rfl, _, _⟩ := h1.shape
  obtain ⟨p1, k1, rfl, _, _⟩ := h2.shape
  obtain ⟨W0, hW⟩ : ∃ W0, W0 = w.alloc (.cells #[.bool x.neg, .slice p0 x.num.length k0, .slice p1 x.den.length k1] 25) := ⟨_, rfl⟩
  have hb0 : Below w.heap.size w W0 := hW ▸ held_alloc (Below.refl _ w)
  have bx : Box W0 w.heap.size #[.bool x.neg, .slice p0 x.num.length k0, .slice p1 x.den.length k1] 25 := hW ▸ Box.new w _ _
  have H1 := Lib.hid (HX.after hb0)
  have BX := Lib.hid bx
  have HB0 := Lib.hid hb0
  obtain ⟨c0, c1, c2⟩ := bx.cells3
  have hlx := bx.lt
  clear HX h1 h2 hb0 bx
  by_cases hv : ValidF x
  · have HV := Lib.hid hv
    obtain ⟨s, a, b, rfl, hok⟩ : ∃ s a b, x = fr s a b ∧ Ok s a b := ⟨_, _, _, hv.eq, hv.2.2⟩
    have HI := Lib.hid (intF_fr hok)
    replace H1 : Hid (IsF W0 (.agg #[.bool s, .slice p0 (limbs a).length k0, .slice p1 (limbs b).length k1]) (fr s a b)) := H1
    replace BX : Hid (Box W0 w.heap.size #[.bool s, .slice p0 (limbs a).length k0, .slice p1 (limbs b).length k1] 25) := BX
    replace c0 : W0.cell? ⟨w.heap.size, 0, none⟩ = some (.bool s) := c0
    replace c1 : W0.cell? ⟨w.heap.size, 1, none⟩ = some (.slice p0 (limbs a).length k0) := c1
    replace c2 : W0.cell? ⟨w.heap.size, 2, none⟩ = some (.slice p1 (limbs b).length k1) := c2
    replace hW : W0 = w.alloc (.cells #[.bool s, .slice p0 (limbs a).length k0, .slice p1 (limbs b).length k1] 25) := hW
    show Calls _ _ #[.agg #[.bool s, .slice p0 (limbs a).length k0, .slice p1 (limbs b).length k1]] w _
    obtain ⟨R, hR⟩ : ∃ R, intF (fr s a b) = R := ⟨_, rfl⟩
    rw [hR] at HI ⊢
    have la : (limbs a).length ≤ 32 := hok.n32
    clear hR hv hok
    go_enter Try.func37, Try.ntmps37
    go_upto_region 1 with fail
    rw [← hW]
    clear hW
    go_wp2_with fail
    refine (Valid_c _ _ _ H1.out).mono ?_
    intro e w1 hr
    obtain ⟨rfl, hb1⟩ := hr.yes HV.out
    replace BX := Lib.hid (BX.out.after hb1)
    replace H1 := Lib.hid (H1.out.after hb1)
    replace HB0 := Lib.hid (HB0.out.trans (hb1.mono HB0.out.size))
    clear hr hb1 c0 c1 c2 hlx
    obtain ⟨c0, c1, c2⟩ := BX.out.cells3
    have hlx := BX.out.lt
    have G2 : Hid (Sl w1 (.slice p1 (limbs b).length k1) (limbs b)) := H1.out.parts.2.2
    have G1 : Hid (Sl w1 (.slice p0 (limbs a).length k0) (limbs a)) := H1.out.parts.2.1
    go_wp2_with fail
    refine (one_c _ _ _ G2.out).mono ?_
    rintro e w2 ⟨r, rfl, hr1, nk, rfl⟩
    obtain ⟨w3, hw3⟩ : ∃ w3, w3 = w1.drewN nk := ⟨_, rfl⟩
    have hb3 : Below w1.heap.size w1 w3 := hw3 ▸ below_drewN w1 nk w1.heap.size
    replace BX := Lib.hid (BX.out.after hb3)
    replace G1 := Lib.hid (G1.out.after hb3)
    replace HB0 := Lib.hid (HB0.out.trans (hb3.mono HB0.out.size))
    rw [← hw3]
    clear hw3 hb3 c0 c1 c2 hlx G2 H1
    obtain ⟨c0, c1, c2⟩ := BX.out.cells3
    have hlx := BX.out.lt
    cases r with
    | false =>
      have hne : b ≠ 1 := fun e => by have := hr1.2 (by rw [e, limbs_one]); cases this
      have HR : Hid (R = (0, 2)) := by show _ = _; rw [HI.out, if_pos (.inl hne)]
      clear hr1 hne
      go_wp2_with fail
      go_ret2
      rw [HR.out]
      exact ⟨rfl, HB0.out⟩
    | true =>
      have hb1 : b = 1 := limbs_inj ((hr1.1 rfl).trans limbs_one.symm)
      clear hr1
      by_cases hlen : 2 < (limbs a).length
      · have HR : Hid (R = (0, 2)) := by show _ = _; rw [HI.out, if_pos (.inr hlen)]
        clear hb1
        go_wp2_with fail
        go_ret2
        rw [HR.out]
        exact ⟨rfl, HB0.out⟩
      · have HR : Hid (R = if s = true then (if a ≤ 9223372036854775808 then (-(a : Int), 0) else (0, 2)) else if a < 9223372036854775808 then ((a : Int), 0) else (0, 2)) := by
          show _ = _
          rw [HI.out, if_neg (by rintro (h | h); exact h hb1; exact hlen h)]
        have hl2 : (limbs a).length ≤ 2 := by omega
        have hval := lim_take_val hl2
        rw [val_limbs] at hval
        have HVAL := Lib.hid hval
        have hlb := limbs_lb a
        have hx0 := hlb.getD 0
        have hx1 := hlb.getD 1
        have hcap : k0 ≤ 9223372036854775807 := by assumption
        clear hval hlb hb1 hlen HI
        go_upto_region 7 with fail
        go_loopg [4, 23] ((limbs a).length) (fun g t4 t23 wx => ∃ (i n : Nat), i ≤ (limbs a).length ∧ g = (limbs a).length - i ∧ t23 = .int .i64 (i : Int) ∧ t4 = .int .u64 (n : Int) ∧ wx = w3 ∧ Hid ((i = 0 → n = 0) ∧ (i = 1 → n = lim (limbs a) 0) ∧ (i = 2 → n = lim (limbs a) 0 + 4294967296 * lim (limbs a) 1)))
        case atStart => exact ⟨0, 0, by omega, rfl, rfl, rfl, rfl, ⟨fun _ => rfl, fun h => by omega, fun h => by omega⟩⟩
        case round =>
          obtain ⟨i, n, hi, rfl, rfl, rfl, rfl, hn⟩ := hrel
          by_cases hlt : i < (limbs a).length
          · obtain ⟨_, pa, ca, e, _, _, _, h6⟩ := G1.out
            injection e with e _ e3
            subst e e3
            obtain ⟨bk, off, rfl, hbl, hcells⟩ := h6 (by omega)
            have hc := hcells i hlt
            obtain ⟨x, hx⟩ : ∃ x, lim (limbs a) i = x := ⟨_, rfl⟩
            have hxlt : x < 4294967296 := by rw [← hx]; exact (limbs_lb a).getD i
            rw [hx] at hc
            have hi1 : i = 0 ∨ i = 1 := by omega
            rcases hi1 with rfl | rfl
            · obtain rfl : n = 0 := hn.out.1 rfl
              have hor := or_zero_u64 x hxlt
              have hwx : IntKind.u64.wrap (x : Int) = (x : Int) := by rw [IntKind.wrap_u64]; omega
              have HX := Lib.hid hx
              clear h6 hcells hn hi hx0 hx1 hx HVAL
              simp only [Nat.add_zero] at hc
              go_wp2_with fail
              go_roundg ((limbs a).length - (0 + 1))
              case measure => omega
              case rel => exact ⟨1, x, by omega, rfl, by go_num, by go_num, rfl, ⟨fun h => by omega, fun _ => HX.out.symm, fun h => by omega⟩⟩
            · obtain rfl : n = lim (limbs a) 0 := hn.out.2.1 rfl
              have hor := or_high_u64 (lim (limbs a) 0) x hx0 hxlt
              have hwx : IntKind.u64.wrap ((x : Int) * 4294967296) = (x : Int) * 4294967296 := by rw [IntKind.wrap_u64]; omega
              have HX := Lib.hid hx
              clear h6 hcells hn hi hx1 hx HVAL
              go_wp2_with fail
              go_roundg ((limbs a).length - (1 + 1))
              case measure => omega
              case rel => exact ⟨2, _, by omega, rfl, by go_num, by go_num, rfl, ⟨fun h => by omega, fun h => by omega, fun _ => by rw [HX.out]⟩⟩
          · obtain rfl : n = a := by
              obtain ⟨v0, v1, v2⟩ := HVAL.out
              obtain ⟨n0, n1, n2⟩ := hn.out
              rcases (show i = 0 ∨ i = 1 ∨ i = 2 by omega) with h | h | h
              · exact (n0 h).trans (v0 (by omega)).symm
              · exact (n1 h).trans (v1 (by omega)).symm
              · exact (n2 h).trans (v2 (by omega)).symm
            have hnlt : n < 18446744073709551616 := by
              obtain ⟨v0, v1, v2⟩ := HVAL.out
              rcases (show (limbs n).length = 0 ∨ (limbs n).length = 1 ∨ (limbs n).length = 2 by omega) with h | h | h
              · have := v0 (by omega); omega
              · have := v1 h; omega
              · have := v2 h; omega
            clear hn hx0 hx1 HVAL G1 hi
            cases s with
            | true =>
              by_cases hle : n ≤ 9223372036854775808
              · have HR2 : Hid (R = (-(n : Int), 0)) := by show _ = _; rw [HR.out, if_pos rfl, if_pos hle]
                have hd1 : decide ((n : Int) ≤ 9223372036854775808) = true := decide_eq_true (by omega)
                go_wp2_with fail
                go_ret2
                rw [HR2.out]
                refine ⟨?_, HB0.out⟩
                have hw := neg_i64 hle
                show Ending.returned (.tuple #[.int .i64 (Go.RowKit.wrap64 (IntKind.u64.wrap (-(n : Int)))), .int .i64 0]) = _
                rw [hw]
              · have HR2 : Hid (R = (0, 2)) := by show _ = _; rw [HR.out, if_pos rfl, if_neg hle]
                have hd1 : decide ((n : Int) ≤ 9223372036854775808) = false := decide_eq_false (by omega)
                go_wp2_with fail
                go_ret2
                rw [HR2.out]
                exact ⟨rfl, HB0.out⟩
            | false =>
              by_cases hle : n < 9223372036854775808
              · have HR2 : Hid (R = ((n : Int), 0)) := by show _ = _; rw [HR.out, if_neg (by simp), if_pos hle]
                have hd1 : decide ((n : Int) < 9223372036854775808) = true := decide_eq_true (by omega)
                have hw : IntKind.i64.wrap (n : Int) = (n : Int) := wrap_in (by omega) (by omega)
                go_wp2_with fail
                go_ret2
                rw [HR2.out]
                refine ⟨?_, HB0.out⟩
                rfl
              · have HR2 : Hid (R = (0, 2)) := by show _ = _; rw [HR.out, if_neg (by simp), if_neg hle]
                have hd1 : decide ((n : Int) < 9223372036854775808) = false := decide_eq_false (by omega)
                go_wp2_with fail
                go_ret2
                rw [HR2.out]
                exact ⟨rfl, HB0.out⟩
  · rw [intF_no hv]
    have HV := Lib.hid hv
    clear hv
    go_enter Try.func37, Try.ntmps37
    go_upto_region 1 with fail
    rw [← hW]
    clear hW
    go_wp2_with fail
    refine (Valid_c _ _ _ H1.out).mono ?_
    intro e w1 hr
    obtain ⟨rfl, hb1⟩ := hr.no HV.out
    replace HB0 := Lib.hid (HB0.out.trans (hb1.mono HB0.out.size))
    clear hr hb1 c0 c1 c2 hlx
    go_wp2_with fail
    go_ret2
    exact ⟨rfl, HB0.out⟩
end Go.Proofs.Ytaojdlcailpheaa

namespace Go.Proofs.Ytaojdlcailpheaa
open Go.RowKit

def u8v (x : Nat) : Value := .int .u8 (x : Int)
/-- Block b holds the bytes l, and other cells behind them. -/
def Row8 (w : World) (b : Nat) (l : List Nat) : Prop := ∃ rest : List Value, w.heap[b]? = some (.cells (l.map u8v ++ rest).toArray 5 (0, 0))
theorem Row8.lt {w : World} {b : Nat} {l : List Nat} (h : Row8 w b l) : b < w.heap.size := by obtain ⟨r, h⟩ := h; exact (Array.getElem?_eq_some_iff.1 h).1
theorem Row8.cell {w : World} {b : Nat} {l : List Nat} (h : Row8 w b l) {i : Nat} (hi : i < l.length) : w.cell? ⟨b, i, none⟩ = some (.int .u8 ((lim l i : Nat) : Int)) := by
  obtain ⟨r, h⟩ := h
  rw [cell_of_row w b i _ _ (0, 0) h, lim_get hi]
  simp [List.getElem?_append_left, hi, u8v]
theorem Row8.frozen {w : World} {b : Nat} {l : List Nat} (h : Row8 w b l) (i : Nat) : w.frozen? ⟨b, i, none⟩ = false := by
  obtain ⟨r, h⟩ := h
  exact Box.frozen (t := 5) h i
theorem Row8.set {w : World} {b : Nat} {l : List Nat} (h : Row8 w b l) {i : Nat} (hi : i < l.length) (x : Nat) : Row8 (w.setCell ⟨b, i, none⟩ (.int .u8 (x : Int))) b (l.set i x) := by
  obtain ⟨r, h⟩ := h
  refine ⟨r, ?_⟩
  have := Box.set (t := 5) h i (.int .u8 (x : Int))
  unfold Box at this
  rw [this]
  congr 2
  apply Array.ext'
  simp [List.set_append_left, hi, List.map_set, u8v]
theorem Row8.drew {w : World} {b : Nat} {l : List Nat} (h : Row8 w b l) : Row8 w.drew b l := h
/-- How far a row has been turned. -/
def Turned (l lw : List Nat) (i : Nat) : Prop := lw.length = l.length ∧ ∀ k, k < l.length → lim lw k = if k < i ∨ l.length ≤ k + i then lim l (l.length - 1 - k) else lim l k
theorem Turned.start (l : List Nat) : Turned l l 0 := ⟨rfl, fun k hk => by rw [if_neg (by omega)]⟩
theorem Turned.step {l lw : List Nat} {i j : Nat} (h : Turned l lw i) (hij : i + j + 1 = l.length) (hlt : i < j) : Turned l ((lw.set i (lim lw j)).set j (lim lw i)) (i + 1) := by
  obtain ⟨h1, h2⟩ := h
  refine ⟨by simp [h1], fun k hk => ?_⟩
  by_cases e1 : k = j
  · subst e1
    rw [lim_set_eq (by simp [h1]; omega), h2 i (by omega), if_neg (by omega), if_pos (by omega)]
    congr 1; omega
  · rw [lim_set_ne (by omega)]
    by_cases e2 : k = i
    · subst e2
      rw [lim_set_eq (by omega), h2 j (by omega), if_neg (by omega), if_pos (by omega)]
      congr 1; omega
    · rw [lim_set_ne (by omega), h2 k hk]
      by_cases e3 : k < i ∨ l.length ≤ k + i
      · rw [if_pos e3, if_pos (by omega)]
      · rw [if_neg e3, if_neg (by omega)]
theorem lim_ext {a b : List Nat} (hl : a.length = b.length) (h : ∀ k, k < a.length → lim a k = lim b k) : a = b := by
  apply List.ext_getElem hl
  intro i h1 h2
  have := h i h1
  rwa [lim_get h1, lim_get h2] at this
theorem Turned.done {l lw : List Nat} {i j : Nat} (h : Turned l lw i) (hij : i + j + 1 = l.length) (hle : j ≤ i) (hl : i ≤ j + 1) : lw = l.reverse := by
  obtain ⟨h1, h2⟩ := h
  refine lim_ext (by simp [h1]) fun k hk => ?_
  have hr : lim l.reverse k = lim l (l.length - 1 - k) := by
    rw [lim_get (l := l.reverse) (i := k) (by rw [List.length_reverse]; omega), List.getElem_reverse, lim_get (l := l) (by omega)]
  rw [h2 k (by omega), hr]
  split
  · rfl
  · congr 1; omega

set_option maxRecDepth 100000 in
set_option maxHeartbeats 4000000 in
theorem reverse_c (w : World) (b cap : Nat) (l : List Nat) (h : Row8 w b l) (h0 : 0 < l.length) (hc : l.length ≤ cap) (hm : cap ≤ 9223372036854775807) :
    Calls Try.prog 98 #[.slice (some ⟨b, 0, none⟩) l.length cap] w fun e w' => (∃ v, e = .returned v) ∧ Row8 w' b l.reverse ∧ Below b w w' := by
  obtain ⟨n, hn⟩ : ∃ n, l.length = n := ⟨_, rfl⟩
  rw [hn] at h0 hc
  rw [hn]
  have HN := Lib.hid hn
  have H := Lib.hid h
  clear h hn
  go_enter Try.func98, Try.ntmps98
  go_wp2
  go_loopg [2, 3] n (fun g ti tj wx => ∃ (i j : Nat) (lw : List Nat), i + j + 1 = n ∧ i ≤ j + 1 ∧ g = j + 1 ∧ ti = .int .i64 (i : Int) ∧ tj = .int .i64 (j : Int) ∧ Hid (Row8 wx b lw) ∧ Hid (Turned l lw i) ∧ Hid (Below b w wx))
  case atStart => exact ⟨0, n - 1, l, by omega, by omega, by omega, rfl, by congr 1; omega, H.out, Turned.start l, Below.refl _ _⟩
  case round =>
    obtain ⟨i, j, lw, hij, hile, rfl, rfl, rfl, hrow, htu, hbl⟩ := hrel
    by_cases hlt : i < j
    · obtain ⟨j, rfl⟩ : ∃ j', j = j' + 1 := ⟨j - 1, by omega⟩
      have hlw : Hid (lw.length = n) := htu.out.1.trans HN.out
      have c1 := hrow.out.cell (i := i) (by rw [hlw.out]; omega)
      have c2 := hrow.out.cell (i := j + 1) (by rw [hlw.out]; omega)
      have hrow2 := hrow.out.set (i := i) (by rw [hlw.out]; omega) (lim lw (j + 1))
      have f1 := hrow.out.frozen i
      have f2 := hrow.out.frozen (j + 1)
      have hi0 : (0 : Int) ≤ (i : Int) := Int.natCast_nonneg _
      have hj0 : (0 : Int) ≤ (j : Int) := Int.natCast_nonneg _
      have hin : (i : Int) < (n : Int) := by omega
      have hjn : (j : Int) + 1 < (n : Int) := by omega
      have hltz : (i : Int) < (j : Int) + 1 := by omega
      have hne : i ≠ j + 1 := by omega
      have hk4 : ((j : Int) + 1).toNat = j + 1 := by omega
      have c3 : (wr.drew.setCell ⟨b, i, none⟩ (.int .u8 ((lim lw (j + 1) : Nat) : Int))).cell? ⟨b, j + 1, none⟩ = some (.int .u8 ((lim lw (j + 1) : Nat) : Int)) := by
        rw [World.cell?_setCell_other _ _ _ _ (fun e => by injection e with e1 e2; exact hne e2)]; exact c2
      clear hrow2
      rw [show ((j + 1 : Nat) : Int) = (j : Int) + 1 from by omega]
      go_wp2
      go_region
      have hR : Hid (Row8 (((wr.setCell ⟨b, i, none⟩ (.int .u8 ((lim lw (j + 1) : Nat) : Int))).setCell ⟨b, j + 1, none⟩ (.int .u8 ((lim lw i : Nat) : Int))).drew) b ((lw.set i (lim lw (j + 1))).set (j + 1) (lim lw i))) :=
        ((hrow.out.set (i := i) (by rw [hlw.out]; omega) (lim lw (j + 1))).set (i := j + 1) (by rw [List.length_set, hlw.out]; omega) (lim lw i)).drew
      have hT : Hid (Turned l ((lw.set i (lim lw (j + 1))).set (j + 1) (lim lw i)) (i + 1)) := htu.out.step (by rw [HN.out]; omega) (by omega)
      have hW : Hid (Below b w (((wr.setCell ⟨b, i, none⟩ (.int .u8 ((lim lw (j + 1) : Nat) : Int))).setCell ⟨b, j + 1, none⟩ (.int .u8 ((lim lw i : Nat) : Int))).drew)) := ((hbl.out.setCell (Nat.le_refl _) _).setCell (Nat.le_refl _) _).drew
      clear c1 c2 c3 f1 f2 hk4
      go_wp2_with fail
      go_roundg (j + 1)
      case measure => omega
      case rel => exact ⟨i + 1, j, _, by omega, by omega, rfl, by go_num, by first | rfl | go_num, hR.out, hT.out, hW.out⟩
    · have hfin : Hid (Row8 wr b l.reverse) := by
        have := htu.out.done (j := j) (by rw [HN.out]; omega) (by omega) (by omega)
        show Row8 _ _ _
        rw [← this]; exact hrow.out
      have hge : (j : Int) ≤ (i : Int) := by omega
      go_wp2_with fail
      refine bodyPost_end (results_none rfl _ _ _) rfl ?_
      exact ⟨⟨_, rfl⟩, hfin.out, hbl.out⟩
end Go.Proofs.Ytaojdlcailpheaa

namespace Go.Proofs.Ytaojdlcailpheaa
open Go.RowKit

theorem info8 : (Try.prog.info? 5).map (fun i => (i.zero, i.size, i.bytes)) = some (some (.int .u8 0), 1, 1) := by kernel_rfl
theorem Row8.of_own {w : World} {base n g cap : Nat} {l : List Nat} (h : w.ownsRow base 5 1 (.slice (some ⟨g, 0, none⟩) n cap) n (l.map u8v)) : Row8 w g l := by
  rcases h.2 with ⟨h0, _⟩ | ⟨g', cap', cur, e, _, hg, _, _, hs, ht⟩
  · cases h0
  · obtain ⟨rfl, rfl⟩ : g = g' ∧ cap = cap' := by
      injection e with e1 _ e3
      injection e1 with e1
      injection e1 with e1 _ _
      exact ⟨e1, e3⟩
    refine ⟨cur.toList.drop n, ?_⟩
    rw [hg]
    congr 2
    apply Array.ext'
    rw [← ht, Nat.mul_one]
    simp

set_option maxRecDepth 100000 in
set_option maxHeartbeats 4000000 in
theorem decimal_c (w : World) (v : Value) (n : Nat) (h : Sl w v (limbs n)) (hl : (limbs n).length ≤ 1000) :
    Calls Try.prog 63 #[v] w fun e w' => e = .returned (.string (decS n)) ∧ Below w.heap.size w w' := by
  obtain ⟨p, cp, rfl, hp1, hp2⟩ := h.shape
  have H := Lib.hid h
  obtain ⟨i0, hi, hz0, hz1, hz2⟩ := info_parts info8
  have hlm : Hid (maxLen = 9223372036854775807) := rfl
  clear h
  rcases Nat.eq_zero_or_pos n with h0 | h0
  · subst h0
    have hs : Hid (decS 0 = ⟨#[48]⟩) := by show _ = _; unfold decS; rw [if_pos rfl]
    clear H hl
    rw [limbs_zero]
    go_enter Try.func63, Try.ntmps63
    go_wp2_with fail
    go_ret
    exact ⟨by rw [hs.out]; rfl, Below.refl _ _⟩
  · have hpos : 0 < (limbs n).length := limbs_len_pos h0
    have hb8 : (((limbs n).length : Int) == 0) = false := beq_eq_false_iff_ne.2 (by omega)
    go_enter Try.func63, Try.ntmps63
    go_wp2
    go_loopg [0, 3] n (fun g ta tq wx => ∃ (m : Nat) (pa : Option Addr) (ca : Nat) (l : List Nat), m ≤ n ∧ g = m ∧ ta = .slice pa (limbs m).length ca ∧ Hid (Sl wx (.slice pa (limbs m).length ca) (limbs m)) ∧ Hid (wx.ownsRow w.heap.size 5 1 tq l.length (l.map u8v)) ∧ Hid (l ++ revd m = revd n) ∧ Hid (Below w.heap.size w wx))
    case atStart => exact ⟨n, p, cp, [], Nat.le_refl _, rfl, rfl, H.out, ⟨rfl, .inl ⟨rfl, rfl⟩⟩, rfl, Below.refl _ _⟩
    case round =>
      obtain ⟨m, pa, ca, l, hmn, hgm, rfl, hs0, hown0, hrel0, hbl0⟩ := hrel
      obtain rfl := hgm.symm
      have hlm2 : Hid ((limbs m).length ≤ 1000) := Nat.le_trans (limbs_len_mono hmn) hl
      by_cases hm0 : 0 < m
      · obtain ⟨wo, rfl⟩ : ∃ wo : World, wo = wr := ⟨_, rfl⟩
        have hmp : 0 < (limbs m).length := limbs_len_pos hm0
        go_wp2_with fail
        refine (short_c _ _ (limbs m) 1000000000  hs0.out (by omega) (by omega) (by have := hlm2.out; omega)).mono ?_
        rw [val_limbs]
        obtain ⟨q, hq⟩ : ∃ q, m / 1000000000 = q := ⟨_, rfl⟩
        obtain ⟨r, hr⟩ : ∃ r, m % 1000000000 = r := ⟨_, rfl⟩
        rw [hq, hr]
        have hqm : q < m := by omega
        have hrb : r < 1000000000 := by omega
        have hval : Hid (l ++ revd (q * 10 ^ 9 + r) = revd n) := by
          show _ = _
          rw [← hrel0.out]
          congr 2
          omega
        clear hq hr
        rintro e w1 ⟨v1, rfl, hv1, hb1⟩
        obtain ⟨pq, cq, rfl, _, _⟩ := hv1.shape
        have HV := Lib.hid hv1
        have HO1 := Lib.hid (ownsRow_after hown0.out hb1)
        have HB1 := Lib.hid (hbl0.out.trans (hb1.mono hbl0.out.size))
        clear hv1 hb1 hmp
        go_wp2_with fail
        go_loopg [3, 4, 5] 9 (fun g tq td tk wi => ∃ (k d : Nat) (l : List Nat), k ≤ 9 ∧ g = 9 - k ∧ td = .int .u32 (d : Int) ∧ tk = .int .i64 (k : Int) ∧ Hid (d < 10 ^ (9 - k)) ∧ Hid (wi.ownsRow w.heap.size 5 1 tq l.length (l.map u8v)) ∧ Hid (l ++ revd (q * 10 ^ (9 - k) + d) = revd n) ∧ Hid (Sl wi (.slice pq (limbs q).length cq) (limbs q)) ∧ Hid (Below w.heap.size w wi))
        case atStart => exact ⟨0, r, l, Nat.zero_le _, rfl, rfl, rfl, hrb, HO1.out, hval.out, HV.out, HB1.out⟩
        case round =>
          clear hs0 hown0 hrel0 hbl0 HV HO1 HB1 hval
          obtain ⟨k, d, l, hk9, rfl, rfl, rfl, hd, hown, hrel, hs, hbl⟩ := hrel
          have hlen : Hid (l.length ≤ 10000) := by
            show _ ≤ _
            have h1 := congrArg List.length hrel.out
            rw [List.length_append] at h1
            have h2 := revd_limbs (n := n)
            omega
          by_cases hk : k < 9
          · have hdb : d < 4294967296 := by
              have h1 := hd.out
              have h2 : 10 ^ (9 - k) ≤ 10 ^ 9 := Nat.pow_le_pow_right (by omega) (by omega)
              omega
            by_cases hq0 : 0 < q
            · have hql : 0 < (limbs q).length := limbs_len_pos hq0
              go_wp2_with (at_builtin; refine wpList_append_own _ rfl _ _ 94 rfl w.heap.size 5 i0 (.int .u8 0) 1 1 Try.underlying94 hi hz0 hz1 hz2 rfl (by decide) _ _ _ rfl (hown.out.alloc _) ⟨wr.heap.size, 0, none⟩ 1 1 [.int .u8 (48 + (d : Int) % 10)] rfl rfl ?c1 ?c2 ?c3 ?c4 ?c5 ?_)
              case c1 => exact cell_one_new _ _ _
              case c2 => simp [Value.oneCell']
              case c3 => rw [hlm.out]; have := hlen.out; omega
              case c4 => have := hlen.out; omega
              case c5 => have := hbl.out.size; simp; omega
              intro v' w2 hown2 hgrow _
              have hO2 : Hid (w2.ownsRow w.heap.size 5 1 v' (l ++ [48 + d % 10]).length ((l ++ [48 + d % 10]).map u8v)) := by
                show World.ownsRow _ _ _ _ _ _ _
                rw [List.length_append, List.map_append]
                exact hown2
              have hb2 := (Below.refl wr.heap.size wr).alloc (Nat.le_refl _) (.cells #[.int .u8 (48 + (d : Int) % 10)] 5)
              have htag := ownsRow_tag (ownsRow_after hown.out hb2) (show 5 ≠ 51 by decide)
              have hS2 := Lib.hid ((hs.out.after hb2).grown hgrow htag)
              have hB2 : Hid (Below w.heap.size w w2) := (hbl.out.trans (hb2.mono hbl.out.size)).grown hgrow (by have := hbl.out.size; simp; omega) (fun k hk => (hown.out.lt k hk).1)
              have hdn : Hid (d / 10 < 10 ^ (9 - (k + 1))) := by
                show _ < _
                have := hd.out
                rw [show 9 - k = (9 - (k + 1)) + 1 by omega, Nat.pow_succ] at this
                omega
              have hRn : Hid ((l ++ [48 + d % 10]) ++ revd (q * 10 ^ (9 - (k + 1)) + d / 10) = revd n) := by
                show _ = _
                rw [← hrel.out, show 9 - k = (9 - (k + 1)) + 1 by omega, revd_step (by have := Nat.mul_pos hq0 (Nat.pow_pos (n := 9 - (k + 1) + 1) (show 0 < 10 by omega)); omega)]
                simp
              clear hown2 hgrow htag hb2
              go_wp2_with fail
              go_roundg (9 - (k + 1))
              case measure => omega
              case rel => exact ⟨k + 1, d / 10, _, by omega, rfl, by go_num, by go_num, hdn.out, hO2.out, hRn.out, hS2.out, hB2.out⟩
            · by_cases hd0 : 0 < d
              · have hql : (limbs q).length ≤ 0 := by rw [show q = 0 by omega, limbs_zero]; exact Nat.le_refl 0
                go_wp2_with (at_builtin; refine wpList_append_own _ rfl _ _ 94 rfl w.heap.size 5 i0 (.int .u8 0) 1 1 Try.underlying94 hi hz0 hz1 hz2 rfl (by decide) _ _ _ rfl (hown.out.alloc _) ⟨wr.heap.size, 0, none⟩ 1 1 [.int .u8 (48 + (d : Int) % 10)] rfl rfl ?c1 ?c2 ?c3 ?c4 ?c5 ?_)
                case c1 => exact cell_one_new _ _ _
                case c2 => simp [Value.oneCell']
                case c3 => rw [hlm.out]; have := hlen.out; omega
                case c4 => have := hlen.out; omega
                case c5 => have := hbl.out.size; simp; omega
                intro v' w2 hown2 hgrow _
                have hO2 : Hid (w2.ownsRow w.heap.size 5 1 v' (l ++ [48 + d % 10]).length ((l ++ [48 + d % 10]).map u8v)) := by
                  show World.ownsRow _ _ _ _ _ _ _
                  rw [List.length_append, List.map_append]
                  exact hown2
                have hb2 := (Below.refl wr.heap.size wr).alloc (Nat.le_refl _) (.cells #[.int .u8 (48 + (d : Int) % 10)] 5)
                have htag := ownsRow_tag (ownsRow_after hown.out hb2) (show 5 ≠ 51 by decide)
                have hS2 := Lib.hid ((hs.out.after hb2).grown hgrow htag)
                have hB2 : Hid (Below w.heap.size w w2) := (hbl.out.trans (hb2.mono hbl.out.size)).grown hgrow (by have := hbl.out.size; simp; omega) (fun k hk => (hown.out.lt k hk).1)
                have hdn : Hid (d / 10 < 10 ^ (9 - (k + 1))) := by
                  show _ < _
                  have := hd.out
                  rw [show 9 - k = (9 - (k + 1)) + 1 by omega, Nat.pow_succ] at this
                  omega
                have hRn : Hid ((l ++ [48 + d % 10]) ++ revd (q * 10 ^ (9 - (k + 1)) + d / 10) = revd n) := by
                  show _ = _
                  rw [← hrel.out, show 9 - k = (9 - (k + 1)) + 1 by omega, revd_step (by omega)]
                  simp
                clear hown2 hgrow htag hb2
                go_wp2_with fail
                go_roundg (9 - (k + 1))
                case measure => omega
                case rel => exact ⟨k + 1, d / 10, _, by omega, rfl, by go_num, by go_num, hdn.out, hO2.out, hRn.out, hS2.out, hB2.out⟩
              · have hql : (limbs q).length ≤ 0 := by rw [show q = 0 by omega, limbs_zero]; exact Nat.le_refl 0
                have hfin : Hid (l ++ revd q = revd n) := by
                  have := hrel.out
                  rw [show d = 0 by omega, show q = 0 by omega] at this
                  show _ = _
                  rw [show q = 0 by omega]
                  simpa using this
                have hdz : d ≤ 0 := by omega
                go_wp2_with fail
                go_roundg q
                case measure => omega
                case rel => exact ⟨q, pq, cq, l, by omega, rfl, rfl, hs.out, hown.out, hfin.out, hbl.out⟩
          · have hfin : Hid (l ++ revd q = revd n) := by
              have h1 := hrel.out
              have h2 := hd.out
              rw [show 9 - k = 0 by omega] at h1 h2
              show _ = _
              rw [show d = 0 by omega] at h1
              simpa using h1
            have hk9' : 9 ≤ (k : Int) := by omega
            go_wp2_with fail
            go_roundg q
            case measure => omega
            case rel => exact ⟨q, pq, cq, l, by omega, rfl, rfl, hs.out, hown.out, hfin.out, hbl.out⟩
      · obtain rfl : m = 0 := by omega
        have hfin : Hid (l = revd n) := by
          have := hrel0.out
          rw [revd_zero, List.append_nil] at this
          exact this
        have hl0 : 0 < l.length := by rw [hfin.out, revd_pos h0]; simp
        obtain ⟨gb, cap, hu, hc1, hc2⟩ : ∃ gb cap, u3 = .slice (some ⟨gb, 0, none⟩) l.length cap ∧ l.length ≤ cap ∧ cap ≤ 9223372036854775807 := by
          rcases hown0.out.2 with ⟨_, h1⟩ | ⟨gb, cap, _, h1, _, _, h2, h3, _⟩
          · omega
          · exact ⟨gb, cap, h1, h2, h3⟩
        have hown1 : wr.ownsRow w.heap.size 5 1 u3 l.length (l.map u8v) := hown0.out
        clear hown0
        subst hu
        have hge : w.heap.size ≤ gb := (hown1.lt gb rfl).1
        have hR := Lib.hid (Row8.of_own hown1)
        have hlz : (limbs 0).length ≤ 0 := by rw [limbs_zero]; exact Nat.le_refl 0
        clear hown1 hs0 hrel0
        go_wp2_with fail
        refine (reverse_c _ gb cap l hR.out hl0 hc1 hc2).mono ?_
        rintro e w2 ⟨⟨v, rfl⟩, hrow, hb2⟩
        have HR2 := Lib.hid hrow
        have HB2 : Hid (Below w.heap.size w w2) := hbl0.out.trans (hb2.mono hge)
        have hstr : Hid (∀ j (hj : j < (l.reverse.map UInt8.ofNat).length), w2.cell? ((⟨gb, 0, none⟩ : Addr).add j) = some (.int .u8 ((l.reverse.map UInt8.ofNat)[j].toNat : Int))) := by
          intro j hj
          have hj' : j < l.reverse.length := by simpa using hj
          have hadd : (⟨gb, 0, none⟩ : Addr).add j = ⟨gb, j, none⟩ := by unfold Addr.add; split <;> simp_all
          have hx := revd_lt n (l.reverse[j]) (by rw [← hfin.out]; exact List.mem_reverse.1 (List.getElem_mem hj'))
          rw [hadd, hrow.cell hj', lim_get hj']
          simp only [List.getElem_map, UInt8.toNat_ofNat']
          congr 2
          omega
        have hconv := run_convert_bytes_back (P := Try.prog) w2 94 9 5 ⟨gb, 0, none⟩ cap (l.reverse.map UInt8.ofNat) Try.underlying94 Try.underlying5 Try.underlying9 hstr.out
        rw [List.length_map, List.length_reverse] at hconv
        have hdec : Hid ((⟨((l.reverse.map UInt8.ofNat)).toArray⟩ : ByteArray) = decS n) := by
          show _ = _
          unfold decS
          rw [if_neg (by omega), hfin.out]
        rw [hdec.out] at hconv
        clear hrow hb2
        go_wp2_with fail
        go_ret
        exact ⟨rfl, HB2.out⟩
end Go.Proofs.Ytaojdlcailpheaa

namespace Go.Proofs.Ytaojdlcailpheaa
open Go.RowKit

theorem decS_size {n : Nat} (h : (limbs n).length ≤ 1000) : (decS n).size ≤ 10001 := by
  unfold decS
  split
  · show 1 ≤ 10001; omega
  · have := revd_limbs (n := n)
    simp [ByteArray.size]; omega

set_option maxRecDepth 100000 in
set_option maxHeartbeats 2000000 in
theorem Text_fr (w : World) (v : Value) (neg : Bool) (a b : Nat) (h : IsF w v (fr neg a b)) (hok : Ok neg a b) :
    Calls Try.prog 21 #[v] w fun e w' => e = .returned (.string (if neg = true then ⟨#[45]⟩ ++ (decS a ++ ⟨#[47]⟩ ++ decS b) else decS a ++ ⟨#[47]⟩ ++ decS b)) ∧ Below w.heap.size w w' := by
  have HX := h
  obtain ⟨va, vb, rfl, h1, h2⟩ := h
  obtain ⟨p, cp, rfl, _, _⟩ := h1.shape
  obtain ⟨q, cq, rfl, _, _⟩ := h2.shape
  obtain ⟨W0, hW, bx, hsz, hb0⟩ : ∃ W0, W0 = w.alloc (.cells #[.bool (fr neg a b).neg, .slice p (fr neg a b).num.length cp, .slice q (fr neg a b).den.length cq] 25) ∧ Box W0 w.heap.size #[.bool (fr neg a b).neg, .slice p (fr neg a b).num.length cp, .slice q (fr neg a b).den.length cq] 25 ∧ w.heap.size < W0.heap.size ∧ Below w.heap.size w W0 :=
    ⟨_, rfl, Box.new w _ _, by simp, (Below.refl _ w).alloc (Nat.le_refl _) _⟩
  obtain ⟨c0, c1, c2⟩ := bx.cells3
  have H0 := Lib.hid (HX.after hb0)
  have H1 : Hid (Sl W0 (.slice p (fr neg a b).num.length cp) (limbs a)) := h1.after hb0
  have H2 : Hid (Sl W0 (.slice q (fr neg a b).den.length cq) (limbs b)) := h2.after hb0
  have HB0 := Lib.hid hb0
  have BX := Lib.hid bx
  have hla : (limbs a).length ≤ 1000 := Nat.le_trans hok.n32 (by omega)
  have hlb : (limbs b).length ≤ 1000 := Nat.le_trans hok.d32 (by omega)
  have hsa := decS_size hla
  have hsb := decS_size hlb
  have HV := Lib.hid (validF_fr.2 hok)
  have t1 : (decS a).size + 1 ≤ 9223372036854775807 := by omega
  have t2 : (decS a).size + 1 + (decS b).size ≤ 9223372036854775807 := by omega
  have t3 : 1 + ((decS a).size + 1 + (decS b).size) ≤ 9223372036854775807 := by omega
  clear HX bx hb0 h1 h2
  cases neg with
  | true =>
    go_enter Try.func21, Try.ntmps21
    go_upto_region 1 with fail
    rw [← hW]
    clear hW
    go_wp2_with fail
    refine (Valid_c _ _ _ H0.out).mono ?_
    intro e w1 hr
    obtain ⟨rfl, hb1⟩ := hr.yes HV.out
    have mkS : Hid (∀ w', Below w1.heap.size w1 w' → w'.cell? ⟨w.heap.size, 0, none⟩ = some (.bool true) ∧ w'.cell? ⟨w.heap.size, 1, none⟩ = some (.slice p (fr true a b).num.length cp) ∧ w'.cell? ⟨w.heap.size, 2, none⟩ = some (.slice q (fr true a b).den.length cq)) :=
      fun w' hb => ((BX.out.after hb1).after hb).cells3
    have K1 := Lib.hid (H1.out.after hb1)
    have K2 := Lib.hid (H2.out.after hb1)
    have HB1 := Lib.hid (HB0.out.trans (hb1.mono HB0.out.size))
    clear hr hb1 c0 c1 c2 H0 H1 H2 BX
    go_upto_region 3 with fail
    obtain ⟨c0, c1, c2⟩ := mkS.out _ (Below.refl _ _)
    go_region_with (first
       | (go_at_call_of 63 p; refine (decimal_c _ _ a ?_ hla).mono ?_; exact K1.out.after (below_dr (Below.refl _ w1)); rintro e wa ⟨rfl, hb⟩; have hk1 := below_of_drew hb; obtain ⟨c3, c4, c5⟩ := mkS.out _ hk1)
       | (go_at_call_of 63 q; refine (decimal_c _ _ b ?_ hlb).mono ?_; exact K2.out.after hk1; rintro e wb ⟨rfl, hb2⟩; have hk2 := hk1.trans (hb2.mono hk1.size))
       | (fail))
    all_goals
      (obtain ⟨d0, d1, d2⟩ := mkS.out _ hk2
       have HB2 := Lib.hid (HB1.out.trans (hk2.mono HB1.out.size))
       clear hk1 hk2 hb hb2 mkS c0 c1 c2 c3 c4 c5
       go_wp2_with fail
       all_goals
         (go_ret
          exact ⟨rfl, HB2.out⟩))
  | false =>
    go_enter Try.func21, Try.ntmps21
    go_upto_region 1 with fail
    rw [← hW]
    clear hW
    go_wp2_with fail
    refine (Valid_c _ _ _ H0.out).mono ?_
    intro e w1 hr
    obtain ⟨rfl, hb1⟩ := hr.yes HV.out
    have mkS : Hid (∀ w', Below w1.heap.size w1 w' → w'.cell? ⟨w.heap.size, 0, none⟩ = some (.bool false) ∧ w'.cell? ⟨w.heap.size, 1, none⟩ = some (.slice p (fr false a b).num.length cp) ∧ w'.cell? ⟨w.heap.size, 2, none⟩ = some (.slice q (fr false a b).den.length cq)) :=
      fun w' hb => ((BX.out.after hb1).after hb).cells3
    have K1 := Lib.hid (H1.out.after hb1)
    have K2 := Lib.hid (H2.out.after hb1)
    have HB1 := Lib.hid (HB0.out.trans (hb1.mono HB0.out.size))
    clear hr hb1 c0 c1 c2 H0 H1 H2 BX
    go_upto_region 3 with fail
    obtain ⟨c0, c1, c2⟩ := mkS.out _ (Below.refl _ _)
    go_region_with (first
       | (go_at_call_of 63 p; refine (decimal_c _ _ a ?_ hla).mono ?_; exact K1.out.after (below_dr (Below.refl _ w1)); rintro e wa ⟨rfl, hb⟩; have hk1 := below_of_drew hb; obtain ⟨c3, c4, c5⟩ := mkS.out _ hk1)
       | (go_at_call_of 63 q; refine (decimal_c _ _ b ?_ hlb).mono ?_; exact K2.out.after hk1; rintro e wb ⟨rfl, hb2⟩; have hk2 := hk1.trans (hb2.mono hk1.size))
       | (fail))
    all_goals
      (obtain ⟨d0, d1, d2⟩ := mkS.out _ hk2
       have HB2 := Lib.hid (HB1.out.trans (hk2.mono HB1.out.size))
       clear hk1 hk2 hb hb2 mkS c0 c1 c2 c3 c4 c5
       go_wp2_with fail
       all_goals
         (go_ret
          exact ⟨rfl, HB2.out⟩))
end Go.Proofs.Ytaojdlcailpheaa
