/- Walks: slices.Reverse of bytes. -/
import Derived.Test.YtppehiajocgiiaaQDec
import Derived.Test.YtppehiajocgiiaaK05
import Derived.BigRegion
set_option linter.unusedVariables false
namespace Go.Proofs.Ytppehiajocgiiaa
open Go.RowKit

def u8v (x : Nat) : Value := .int .u8 (x : Int)
/-- Block b holds the bytes l, and other cells behind them. -/
def Row8 (w : World) (b : Nat) (l : List Nat) : Prop := ∃ rest : List Value, w.heap[b]? = some (.cells (l.map u8v ++ rest).toArray 5 (0, 0))
theorem Row8.lt {w : World} {b : Nat} {l : List Nat} (h : Row8 w b l) : b < w.heap.size := by obtain ⟨r, h⟩ := h; exact (Array.getElem?_eq_some_iff.1 h).1
theorem Row8.cell {w : World} {b : Nat} {l : List Nat} (h : Row8 w b l) {i : Nat} (hi : i < l.length) : w.cell? ⟨b, i, none⟩ = some (.int .u8 ((lim l i : Nat) : Int)) := by
  obtain ⟨r, h⟩ := h
  rw [cell_of_row w b i _ _ (0, 0) h, lim_get hi]
  simp [List.getElem?_append_left, hi, u8v]
theorem Row8.frozen {w : World} {b : Nat} {l : List Nat} (h : Row8 w b l) (i : Nat) : w.frozen? ⟨b, i, none⟩ = false := by
  obtain ⟨r, h⟩ := h
  exact Box.frozen (t := 5) h i
theorem Row8.set {w : World} {b : Nat} {l : List Nat} (h : Row8 w b l) {i : Nat} (hi : i < l.length) (x : Nat) : Row8 (w.setCell ⟨b, i, none⟩ (.int .u8 (x : Int))) b (l.set i x) := by
  obtain ⟨r, h⟩ := h
  refine ⟨r, ?_⟩
  have := Box.set (t := 5) h i (.int .u8 (x : Int))
  unfold Box at this
  rw [this]
  congr 2
  apply Array.ext'
  simp [List.set_append_left, hi, List.map_set, u8v]
theorem Row8.drew {w : World} {b : Nat} {l : List Nat} (h : Row8 w b l) : Row8 w.drew b l := h
/-- How far a row has been turned. -/
def Turned (l lw : List Nat) (i : Nat) : Prop := lw.length = l.length ∧ ∀ k, k < l.length → lim lw k = if k < i ∨ l.length ≤ k + i then lim l (l.length - 1 - k) else lim l k
theorem Turned.start (l : List Nat) : Turned l l 0 := ⟨rfl, fun k hk => by rw [if_neg (by omega)]⟩
theorem Turned.step {l lw : List Nat} {i j : Nat} (h : Turned l lw i) (hij : i + j + 1 = l.length) (hlt : i < j) : Turned l ((lw.set i (lim lw j)).set j (lim lw i)) (i + 1) := by
  obtain ⟨h1, h2⟩ := h
  refine ⟨by simp [h1], fun k hk => ?_⟩
  by_cases e1 : k = j
  · subst e1
    rw [lim_set_eq (by simp [h1]; omega), h2 i (by omega), if_neg (by omega), if_pos (by omega)]
    congr 1; omega
  · rw [lim_set_ne (by omega)]
    by_cases e2 : k = i
    · subst e2
      rw [lim_set_eq (by omega), h2 j (by omega), if_neg (by omega), if_pos (by omega)]
      congr 1; omega
    · rw [lim_set_ne (by omega), h2 k hk]
      by_cases e3 : k < i ∨ l.length ≤ k + i
      · rw [if_pos e3, if_pos (by omega)]
      · rw [if_neg e3, if_neg (by omega)]
theorem lim_ext {a b : List Nat} (hl : a.length = b.length) (h : ∀ k, k < a.length → lim a k = lim b k) : a = b := by
  apply List.ext_getElem hl
  intro i h1 h2
  have := h i h1
  rwa [lim_get h1, lim_get h2] at this
theorem Turned.done {l lw : List Nat} {i j : Nat} (h : Turned l lw i) (hij : i + j + 1 = l.length) (hle : j ≤ i) (hl : i ≤ j + 1) : lw = l.reverse := by
  obtain ⟨h1, h2⟩ := h
  refine lim_ext (by simp [h1]) fun k hk => ?_
  have hr : lim l.reverse k = lim l (l.length - 1 - k) := by
    rw [lim_get (l := l.reverse) (i := k) (by rw [List.length_reverse]; omega), List.getElem_reverse, lim_get (l := l) (by omega)]
  rw [h2 k (by omega), hr]
  split
  · rfl
  · congr 1; omega

set_option maxRecDepth 100000 in
set_option maxHeartbeats 4000000 in
theorem reverse_c (w : World) (b cap : Nat) (l : List Nat) (h : Row8 w b l) (h0 : 0 < l.length) (hc : l.length ≤ cap) (hm : cap ≤ 9223372036854775807) :
    Calls Try.prog 95 #[.slice (some ⟨b, 0, none⟩) l.length cap] w fun e w' => (∃ v, e = .returned v) ∧ Row8 w' b l.reverse ∧ Below b w w' := by
  obtain ⟨n, hn⟩ : ∃ n, l.length = n := ⟨_, rfl⟩
  rw [hn] at h0 hc
  rw [hn]
  have HN := Lib.hid hn
  have H := Lib.hid h
  clear h hn
  go_enter Try.func95, Try.ntmps95
  go_wp2
  go_loopg [2, 3] n (fun g ti tj wx => ∃ (i j : Nat) (lw : List Nat), i + j + 1 = n ∧ i ≤ j + 1 ∧ g = j + 1 ∧ ti = .int .i64 (i : Int) ∧ tj = .int .i64 (j : Int) ∧ Hid (Row8 wx b lw) ∧ Hid (Turned l lw i) ∧ Hid (Below b w wx))
  case atStart => exact ⟨0, n - 1, l, by omega, by omega, by omega, rfl, by congr 1; omega, H.out, Turned.start l, Below.refl _ _⟩
  case round =>
    obtain ⟨i, j, lw, hij, hile, rfl, rfl, rfl, hrow, htu, hbl⟩ := hrel
    by_cases hlt : i < j
    · obtain ⟨j, rfl⟩ : ∃ j', j = j' + 1 := ⟨j - 1, by omega⟩
      have hlw : Hid (lw.length = n) := htu.out.1.trans HN.out
      have c1 := hrow.out.cell (i := i) (by rw [hlw.out]; omega)
      have c2 := hrow.out.cell (i := j + 1) (by rw [hlw.out]; omega)
      have hrow2 := hrow.out.set (i := i) (by rw [hlw.out]; omega) (lim lw (j + 1))
      have f1 := hrow.out.frozen i
      have f2 := hrow.out.frozen (j + 1)
      have hi0 : (0 : Int) ≤ (i : Int) := Int.natCast_nonneg _
      have hj0 : (0 : Int) ≤ (j : Int) := Int.natCast_nonneg _
      have hin : (i : Int) < (n : Int) := by omega
      have hjn : (j : Int) + 1 < (n : Int) := by omega
      have hltz : (i : Int) < (j : Int) + 1 := by omega
      have hne : i ≠ j + 1 := by omega
      have hk4 : ((j : Int) + 1).toNat = j + 1 := by omega
      have c3 : (wr.drew.setCell ⟨b, i, none⟩ (.int .u8 ((lim lw (j + 1) : Nat) : Int))).cell? ⟨b, j + 1, none⟩ = some (.int .u8 ((lim lw (j + 1) : Nat) : Int)) := by
        rw [World.cell?_setCell_other _ _ _ _ (fun e => by injection e with e1 e2; exact hne e2)]; exact c2
      clear hrow2
      rw [show ((j + 1 : Nat) : Int) = (j : Int) + 1 from by omega]
      go_wp2
      go_region
      have hR : Hid (Row8 (((wr.setCell ⟨b, i, none⟩ (.int .u8 ((lim lw (j + 1) : Nat) : Int))).setCell ⟨b, j + 1, none⟩ (.int .u8 ((lim lw i : Nat) : Int))).drew) b ((lw.set i (lim lw (j + 1))).set (j + 1) (lim lw i))) :=
        ((hrow.out.set (i := i) (by rw [hlw.out]; omega) (lim lw (j + 1))).set (i := j + 1) (by rw [List.length_set, hlw.out]; omega) (lim lw i)).drew
      have hT : Hid (Turned l ((lw.set i (lim lw (j + 1))).set (j + 1) (lim lw i)) (i + 1)) := htu.out.step (by rw [HN.out]; omega) (by omega)
      have hW : Hid (Below b w (((wr.setCell ⟨b, i, none⟩ (.int .u8 ((lim lw (j + 1) : Nat) : Int))).setCell ⟨b, j + 1, none⟩ (.int .u8 ((lim lw i : Nat) : Int))).drew)) := ((hbl.out.setCell (Nat.le_refl _) _).setCell (Nat.le_refl _) _).drew
      clear c1 c2 c3 f1 f2 hk4
      go_wp2_with fail
      go_roundg (j + 1)
      case measure => omega
      case rel => exact ⟨i + 1, j, _, by omega, by omega, rfl, by go_num, by first | rfl | go_num, hR.out, hT.out, hW.out⟩
    · have hfin : Hid (Row8 wr b l.reverse) := by
        have := htu.out.done (j := j) (by rw [HN.out]; omega) (by omega) (by omega)
        show Row8 _ _ _
        rw [← this]; exact hrow.out
      have hge : (j : Int) ≤ (i : Int) := by omega
      go_wp2_with fail
      refine bodyPost_end (results_none rfl _ _ _) rfl ?_
      exact ⟨⟨_, rfl⟩, hfin.out, hbl.out⟩
end Go.Proofs.Ytppehiajocgiiaa
