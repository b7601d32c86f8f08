/- Memory words, more: ints that the program has made itself; rows of decisions.
   Walks of package canary: between, failures.
   Walks of package canary: Valid.
   Regions that draw their order, within a round of a range over a function: one walk serves all orders, as outside. -/
import Derived.Test.YtebmegodeglobaaK19
import Derived.Test.YtebmegodeglobaaK17
import Derived.Test.YtebmegodeglobaaK10
import Derived.Maps.Own
import Derived.Maps.OwnOps
import Derived.Maps.Views
import Derived.Sort.QuietIn
import Derived.Test.YtebmegodeglobaaProg
set_option linter.unusedVariables false
namespace Go.Proofs.Ytebmegodeglobaa
open Go.RowKit

/-- The slice v lies in a block of type t. -/
def TagV (w : World) (v : Value) (t : TypeId) : Prop := ∀ a n c, v = .slice (some a) n c → ∃ cs fz, w.heap[a.block]? = some (.cells cs t fz)
theorem TagV.nil (w : World) (t : TypeId) : TagV w (.slice none 0 0) t := fun a n c h => by cases h
theorem TagV.after {w w' : World} {v : Value} {t : TypeId} (h : TagV w v t) (hb : Below w.heap.size w w') : TagV w' v t := by
  intro a n c e
  obtain ⟨cs, fz, h1⟩ := h a n c e
  exact ⟨cs, fz, (hb.block _ (Array.getElem?_eq_some_iff.1 h1).1).trans h1⟩
theorem TagV.grown {w w' : World} {v : Value} {t : TypeId} {row : Option Nat} (h : TagV w v t) (hg : w.grownBy w' row) (hr : ∀ g cs fz, row = some g → w.heap[g]? ≠ some (.cells cs t fz)) : TagV w' v t := by
  intro a n c e
  obtain ⟨cs, fz, h1⟩ := h a n c e
  exact ⟨cs, fz, (hg.block _ (Array.getElem?_eq_some_iff.1 h1).1 (fun e => hr _ cs fz e.symm h1)).trans h1⟩
theorem TagV.of_own {w : World} {base n : Nat} {t : TypeId} {v : Value} {cs : List Value} (h : w.ownsRow base t 1 v n cs) : TagV w v t := by
  intro a n' c e
  rcases h.2 with ⟨rfl, _⟩ | ⟨g, cap, cur, rfl, _, hb, _⟩
  · cases e
  · injection e with e _ _
    injection e with e
    subst e
    exact ⟨cur, _, hb⟩
/-- The slice v reads as the ints l; it lies in a row of ints. -/
def SlT (w : World) (v : Value) (l : List Int) : Prop := SlI w v l ∧ TagV w v 3
theorem SlT.nil (w : World) : SlT w (.slice none 0 0) [] := ⟨SlI.nil w, TagV.nil w _⟩
theorem SlT.after {w w' : World} {v : Value} {l : List Int} (h : SlT w v l) (hb : Below w.heap.size w w') : SlT w' v l := ⟨h.1.after hb, h.2.after hb⟩
theorem SlT.grown {w w' : World} {v : Value} {l : List Int} {row : Option Nat} (h : SlT w v l) (hg : w.grownBy w' row) (hr : ∀ g cs fz, row = some g → w.heap[g]? ≠ some (.cells cs 3 fz)) : SlT w' v l := by
  refine ⟨⟨h.1.1, ?_⟩, h.2.grown hg hr⟩
  obtain ⟨a, cap, h1, h2, h3, h4, h5⟩ := h.1.2
  refine ⟨a, cap, h1, h2, h3, h4, fun hl => ?_⟩
  obtain ⟨b, off, e, hlt, hc⟩ := h5 hl
  obtain ⟨cs, fz, ht⟩ := h.2 ⟨b, off, none⟩ _ _ (by rw [h1, e])
  exact ⟨b, off, e, Nat.lt_of_lt_of_le hlt hg.size, fun i c hi => hg.cell (hc i c hi) (fun e' => hr b cs fz e'.symm ht)⟩
theorem SlT.soft {w w' : World} {v : Value} {l : List Int} {n : Nat} (h : SlT w v l) (hs : Soft w n) (hg : w.grownBy w' (some n)) : SlT w' v l :=
  h.grown hg (fun g cs fz e h' => by injection e with e; exact hs.ne_box h' e.symm)
theorem SlT.shape {w : World} {v : Value} {l : List Int} (h : SlT w v l) : ∃ a cap, v = .slice a l.length cap := by
  obtain ⟨a, cap, h1, _⟩ := h.1.shape; exact ⟨a, cap, h1⟩

/-- The cells of decisions in a row. -/
def cellsD (es : List (Nat × Value)) : List Value := es.flatMap fun e => [.int .u8 (e.1 : Int), e.2]
theorem cellsD_snoc (es : List (Nat × Value)) (e : Nat × Value) : cellsD (es ++ [e]) = cellsD es ++ [.int .u8 (e.1 : Int), e.2] := by
  unfold cellsD; rw [List.flatMap_append]; rfl
theorem cellsD_len : ∀ es : List (Nat × Value), (cellsD es).length = es.length * 2
  | [] => rfl
  | e :: es => by
    have := cellsD_len es
    unfold cellsD at this ⊢
    rw [List.flatMap_cons, List.length_append, this]
    simp only [List.length_cons, List.length_nil]
    omega
theorem cellsD_get : ∀ (es : List (Nat × Value)) (i : Nat) (e : Nat × Value), es[i]? = some e → (cellsD es)[i * 2]? = some (.int .u8 (e.1 : Int)) ∧ (cellsD es)[i * 2 + 1]? = some e.2
  | [], i, e, h => by simp at h
  | x :: es, 0, e, h => by
    obtain rfl : x = e := by simpa using h
    exact ⟨rfl, rfl⟩
  | x :: es, i + 1, e, h => by
    have ih := cellsD_get es i e (by simpa using h)
    have e0 : ∀ j, (cellsD (x :: es))[j + 2]? = (cellsD es)[j]? := fun j => by
      unfold cellsD
      rw [List.flatMap_cons]
      rfl
    rw [show (i + 1) * 2 = i * 2 + 2 by omega, show i * 2 + 2 + 1 = i * 2 + 1 + 2 by omega, e0, e0]
    exact ih
/-- What the entries of a row of decisions stand for. -/
def EntsD (w : World) (es : List (Nat × Value)) (ds : List Dec) : Prop := es.length = ds.length ∧ ∀ (i : Nat) (d : Dec), ds[i]? = some d → ∃ v, es[i]? = some (d.kind, v) ∧ SlT w v d.hosts
theorem EntsD.nil (w : World) : EntsD w [] [] := ⟨rfl, fun i d h => by simp at h⟩
theorem EntsD.after {w w' : World} {es : List (Nat × Value)} {ds : List Dec} (h : EntsD w es ds) (hb : Below w.heap.size w w') : EntsD w' es ds :=
  ⟨h.1, fun i d hd => by obtain ⟨v, h1, h2⟩ := h.2 i d hd; exact ⟨v, h1, h2.after hb⟩⟩
theorem EntsD.grown {w w' : World} {es : List (Nat × Value)} {ds : List Dec} {row : Option Nat} (h : EntsD w es ds) (hg : w.grownBy w' row) (hr : ∀ g cs fz, row = some g → w.heap[g]? ≠ some (.cells cs 3 fz)) : EntsD w' es ds :=
  ⟨h.1, fun i d hd => by obtain ⟨v, h1, h2⟩ := h.2 i d hd; exact ⟨v, h1, h2.grown hg hr⟩⟩
theorem EntsD.soft {w w' : World} {es : List (Nat × Value)} {ds : List Dec} {n : Nat} (h : EntsD w es ds) (hs : Soft w n) (hg : w.grownBy w' (some n)) : EntsD w' es ds :=
  ⟨h.1, fun i d hd => by obtain ⟨v, h1, h2⟩ := h.2 i d hd; exact ⟨v, h1, h2.soft hs hg⟩⟩
theorem EntsD.snoc {w : World} {es : List (Nat × Value)} {ds : List Dec} {d : Dec} {v : Value} (h : EntsD w es ds) (h1 : SlT w v d.hosts) : EntsD w (es ++ [(d.kind, v)]) (ds ++ [d]) := by
  refine ⟨by simp [h.1], fun i y hy => ?_⟩
  rcases Nat.lt_or_ge i ds.length with hi | hi
  · rw [List.getElem?_append_left hi] at hy
    obtain ⟨a, e1, e2⟩ := h.2 i y hy
    exact ⟨a, by rw [List.getElem?_append_left (by rw [h.1]; exact hi)]; exact e1, e2⟩
  · rw [List.getElem?_append_right hi] at hy
    have hi0 : i - ds.length = 0 := by
      rcases Nat.eq_zero_or_pos (i - ds.length) with h0 | h0
      · exact h0
      · rw [List.getElem?_eq_none (by simp; omega)] at hy; cases hy
    rw [hi0] at hy
    obtain rfl : d = y := by simpa using hy
    exact ⟨v, by rw [List.getElem?_append_right (by rw [h.1]; exact hi), h.1, hi0]; rfl, h1⟩
/-- The slice v reads as the decisions ds. -/
def SlD (w : World) (v : Value) (ds : List Dec) : Prop := ∃ (a : Option Addr) (cap : Nat), v = .slice a ds.length cap ∧ ds.length ≤ cap ∧ cap ≤ 9223372036854775807 ∧ (a = none → cap = 0) ∧
  (0 < ds.length → ∃ b, a = some ⟨b, 0, none⟩ ∧ b < w.heap.size ∧ ∀ i d, ds[i]? = some d → ∃ u, w.cell? ⟨b, i * 2, none⟩ = some (.int .u8 (d.kind : Int)) ∧ w.cell? ⟨b, i * 2 + 1, none⟩ = some u ∧ SlT w u d.hosts)
theorem SlD.after {w w' : World} {v : Value} {ds : List Dec} (h : SlD w v ds) (hb : Below w.heap.size w w') : SlD w' v ds := by
  obtain ⟨a, cap, h1, h2, h3, h4, h5⟩ := h
  refine ⟨a, cap, h1, h2, h3, h4, fun hl => ?_⟩
  obtain ⟨b, e, hlt, hc⟩ := h5 hl
  refine ⟨b, e, Nat.lt_of_lt_of_le hlt hb.size, fun i d hd => ?_⟩
  obtain ⟨u, c1, c2, c3⟩ := hc i d hd
  exact ⟨u, keep_cell hb c1, keep_cell hb c2, c3.after hb⟩
theorem SlD.soft {w w' : World} {v : Value} {ds : List Dec} {n : Nat} (h : SlD w v ds) (hs : Soft w n) (hg : w.grownBy w' (some n)) : SlD w' v ds := by
  obtain ⟨a, cap, h1, h2, h3, h4, h5⟩ := h
  refine ⟨a, cap, h1, h2, h3, h4, fun hl => ?_⟩
  obtain ⟨b, e, hlt, hc⟩ := h5 hl
  refine ⟨b, e, Nat.lt_of_lt_of_le hlt hg.size, fun i d hd => ?_⟩
  obtain ⟨u, c1, c2, c3⟩ := hc i d hd
  exact ⟨u, cell_soft c1 hs hg, cell_soft c2 hs hg, c3.soft hs hg⟩
theorem SlD.nil (w : World) : SlD w (.slice none 0 0) [] := ⟨none, 0, rfl, by simp, by omega, fun _ => rfl, fun h => by simp at h⟩
theorem SlD.of_own {w : World} {base n : Nat} {t : TypeId} {v : Value} {es : List (Nat × Value)} {ds : List Dec} (h : w.ownsRow base t 2 v n (cellsD es)) (he : EntsD w es ds) : SlD w v ds := by
  have hn : n = ds.length := by have := h.1; rw [cellsD_len, he.1] at this; omega
  subst hn
  rcases h.2 with ⟨rfl, h0⟩ | ⟨g, cap, cur, rfl, _, hg, h3, h4, _, _⟩
  · have : ds = [] := List.length_eq_zero_iff.1 h0
    subst this
    exact SlD.nil w
  · refine ⟨_, cap, rfl, h3, by simpa [maxLen] using h4, (fun h => by cases h), fun _ => ⟨g, rfl, (Array.getElem?_eq_some_iff.1 hg).1, fun i d hd => ?_⟩⟩
    obtain ⟨u, e1, e2⟩ := he.2 i d hd
    obtain ⟨g0, g1⟩ := cellsD_get es i _ e1
    have hc := h.cells (g := g) rfl
    have hadd : ∀ j, (⟨g, 0, none⟩ : Addr).add j = ⟨g, j, none⟩ := fun j => by unfold Addr.add; split <;> simp_all
    have c0 := hc _ _ g0
    have c1 := hc _ _ g1
    rw [hadd] at c0 c1
    exact ⟨u, c0, c1, e2⟩
theorem infoD : (Try.prog.info? 36).map (fun i => (i.zero, i.size, i.bytes)) = some (some (.agg #[.int .u8 0, .slice none 0 0]), 2, 32) := by kernel_rfl
/-- Variable O collects decisions in a row of its own, made since world W1; nothing else of W1 has turned. -/
def OutD (W1 : World) (O k : Nat) (ds : List Dec) (W : World) : Prop :=
  ∃ p n c es, Box W O #[.slice p n c] 42 ∧ W.ownsRow W1.heap.size 36 2 (.slice p n c) k (cellsD es) ∧ EntsD W es ds ∧ W1.grownBy W (some O)
theorem OutD.after {W1 W W' : World} {O k : Nat} {ds : List Dec} (h : OutD W1 O k ds W) (hb : Below W.heap.size W W') : OutD W1 O k ds W' := by
  obtain ⟨p, n, c, es, h1, h2, h3, h4⟩ := h
  exact ⟨p, n, c, es, h1.after hb, ownsRow_after h2 hb, h3.after hb, grown_below h4 hb⟩
theorem OutD.soft {W1 W W' : World} {O k s : Nat} {ds : List Dec} (h : OutD W1 O k ds W) (hs : Soft W s) (hle : W1.heap.size ≤ s) (hg : W.grownBy W' (some s)) : OutD W1 O k ds W' := by
  obtain ⟨p, n, c, es, h1, h2, h3, h4⟩ := h
  exact ⟨p, n, c, es, h1.soft hs hg, ownsRow_soft h2 hs hg, h3.soft hs hg, grown_new h4 hg (fun g e => by injection e with e; omega)⟩
theorem ownsRow_noInt {W : World} {base n size : Nat} {t : TypeId} {v : Value} {xs : List Value} (h : W.ownsRow base t size v n xs) (ht : t ≠ 3) : ∀ g cs fz, v.ownBlock = some g → W.heap[g]? ≠ some (.cells cs 3 fz) := by
  intro g cs fz hg h'
  rcases h.2 with ⟨rfl, _⟩ | ⟨g', cap, cur, rfl, hle, hb, _⟩
  · cases hg
  · obtain rfl : g' = g := by simpa [Value.ownBlock] using hg
    rw [hb] at h'
    injection h' with h'
    injection h' with _ h2
    exact ht h2
theorem Box.noInt {w : World} {O : Nat} {cs : Array Value} {t : TypeId} (hb : Box w O cs t) (ht : t ≠ 3) : ∀ g cs' fz, some O = some g → w.heap[g]? ≠ some (.cells cs' 3 fz) := by
  intro g cs' fz e h'
  injection e with e
  subst e
  unfold Box at hb
  rw [hb] at h'
  injection h' with h'
  injection h' with _ h2
  exact ht h2
/-- One decision more: a new row behind an append. -/
theorem OutD.push {W1 w3 w5 : World} {O k : Nat} {ds : List Dec} {p : Option Addr} {n c : Nat} {d : Dec} {u v' : Value} {es : List (Nat × Value)} {t : TypeId} (hO : O < W1.heap.size) (hbo : Box w3 O #[.slice p n c] 42) (hown : w3.ownsRow W1.heap.size 36 2 (.slice p n c) k (cellsD es))
    (hes : EntsD w3 es ds) (hu : SlT w3 u d.hosts) (hg : W1.grownBy w3 (some O))
    (hown' : w5.ownsRow W1.heap.size 36 2 v' (k + 1) (cellsD es ++ [.int .u8 (d.kind : Int), u])) (hgr : (w3.alloc (.cells #[.int .u8 (d.kind : Int), u] t)).grownBy w5 (Value.slice p n c).ownBlock) :
    Box w5 O #[.slice p n c] 42 ∧ EntsD w5 (es ++ [(d.kind, u)]) (ds ++ [d]) ∧ W1.grownBy w5 (some O) ∧ KeepSoft W1.heap.size w3 w5 ∧ OutD W1 O (k + 1) (ds ++ [d]) (w5.setCell ⟨O, 0, none⟩ v') ∧ KeepSoft W1.heap.size w3 (w5.setCell ⟨O, 0, none⟩ v') := by
  have hal := hown.alloc (.cells #[.int .u8 (d.kind : Int), u] t)
  have hge := ownsRow_ge hal
  have hge' := ownsRow_ge hown'
  have hni := ownsRow_noInt hal (by decide)
  have hb3 := held_alloc (o := .cells #[.int .u8 (d.kind : Int), u] t) (Below.refl w3.heap.size w3)
  have b5 : Box w5 O #[.slice p n c] 42 := (hbo.alloc _).grown' hgr (by intro e; have := (hge O e.symm).1; omega)
  have e5 : EntsD w5 (es ++ [(d.kind, u)]) (ds ++ [d]) := ((hes.after hb3).grown hgr hni).snoc ((hu.after hb3).grown hgr hni)
  have g5 : W1.grownBy w5 (some O) := grown_new (grown_tr hg (World.grownBy_alloc w3 _ (some O))) hgr (fun g e => (hge g e).1)
  have k5 : KeepSoft W1.heap.size w3 w5 := ((KeepSoft.refl W1.heap.size w3).below hb3).grown hgr (fun g e => (hge g e).2)
  refine ⟨b5, e5, g5, k5, ?_, k5.setCell (b5.cell 0)⟩
  obtain ⟨p', c', rfl⟩ := ownsRow_shape hown'
  refine ⟨p', _, c', es ++ [(d.kind, u)], by simpa using b5.set 0 (.slice p' (k + 1) c'), ?_, e5.grown (grown_set w5 O 0 _) (b5.noInt (by decide)), grown_tr g5 (grown_set w5 O 0 _)⟩
  rw [cellsD_snoc]
  refine hown'.kept (grown_set w5 O 0 _) ?_
  cases hb : (Value.slice p' (k + 1) c').ownBlock with
  | none => exact .inl rfl
  | some g => exact .inr (by intro e; injection e with e; have := (hge' g hb).1; omega)
/-- A block of another type is kept by that. -/
theorem OutD.far {w3 w5 : World} {base O k b : Nat} {v v' : Value} {xs : List Value} {cs : Array Value} {o : Obj} {t : TypeId} (hown : w3.ownsRow base 36 2 v k xs) (hgr : (w3.alloc o).grownBy w5 v.ownBlock) (hb : Box w3 b cs t) (ht : t ≠ 36) (hO : b ≠ O) : Box (w5.setCell ⟨O, 0, none⟩ v') b cs t := by
  refine ((hb.alloc o).grown' hgr ?_).far (p := ⟨O, 0, none⟩) hO _
  intro e
  rcases (hown.alloc o).2 with ⟨rfl, _⟩ | ⟨g, cap, cur, rfl, _, hg, _⟩
  · cases e
  · have e : b = g := by simpa [Value.ownBlock] using e
    subst e
    have h1 := hb.alloc o
    unfold Box at h1
    rw [h1] at hg
    injection hg with hg
    injection hg with _ h2
    exact ht h2
theorem cell_two {w : World} {u v : Value} {t : TypeId} : ∀ j x, [u, v][j]? = some x → (w.alloc (.cells #[u, v] t)).cell? ((⟨w.heap.size, 0, none⟩ : Addr).add j) = some x := by
  intro j x hx
  match j, hx with
  | 0, hx =>
    obtain rfl : u = x := by simpa using hx
    exact (Box.new w #[u, v] t).cell 0
  | 1, hx =>
    obtain rfl : v = x := by simpa using hx
    exact (Box.new w #[u, v] t).cell 1
theorem TagV.set {w : World} {v : Value} {t : TypeId} (h : TagV w v t) (g i : Nat) (u : Value) : TagV (w.setCell ⟨g, i, none⟩ u) v t := by
  intro a n c e
  obtain ⟨cs, fz, h1⟩ := h a n c e
  by_cases hb : a.block = g
  · rw [hb] at h1 ⊢
    exact ⟨cs.setIfInBounds i u, fz, by simp [World.setCell, Array.getElem?_modify, h1]⟩
  · exact ⟨cs, fz, (Below.heap_setCell w ⟨g, i, none⟩ u _ hb).trans h1⟩
theorem SlT.setLow {w : World} {v : Value} {l : List Int} {B : Nat} (h : SlT w v l) (hf : FreshFrom B v) {g i : Nat} (hp : g < B) (u : Value) : SlT (w.setCell ⟨g, i, none⟩ u) v l :=
  ⟨h.1.setLow hf (p := ⟨g, i, none⟩) hp u, h.2.set g i u⟩

set_option maxHeartbeats 1000000 in
theorem clone_t (w : World) (va : Value) (a : List Int) (h : SlI w va a) (ha : a.length ≤ 1000000) :
    Calls Try.prog 16 #[va] w fun e w' => ∃ v, e = .returned v ∧ SlT w' v a ∧ FreshFrom w.heap.size v ∧ Below w.heap.size w w' := by
  have hs := h
  obtain ⟨p, cap, rfl, h2, h3, h5⟩ := h.shape
  rcases p with _ | ad
  · have hz := h5 rfl
    have hl : a = [] := List.length_eq_zero_iff.1 (by omega)
    subst hl; subst hz
    have hnil := fun W : World => Lib.run_eql_slice_nil (P := Try.prog) W 22 3 none 0 0 0 0 Try.underlying22
    clear hs h5 h
    go_enter Try.func16, Try.ntmps16
    go_wp2
    go_ret
    exact ⟨_, rfl, SlT.nil w, FreshFrom.nil _, Below.refl _ w⟩
  · have hnil := fun W : World => Lib.run_eql_slice_nil (P := Try.prog) W 22 3 (some ad) a.length cap 0 0 Try.underlying22
    have hown := World.ownsRow_made (e := 3) (size := 1) (base := w.heap.size) w #[] 0 (Nat.le_refl _) (by simp) (by simp)
    have hnews := (hs.alloc (.cells #[] 3)).2.news
    obtain ⟨i0, hi, hz0, hz1, hz2⟩ := info_parts infoInt
    have HOWN := Lib.hid hown
    have HNEWS := Lib.hid hnews
    have HIN : Hid (∀ z ∈ a, In64 z) := hs.1
    have hlm : maxLen = 9223372036854775807 := rfl
    have HLM := Lib.hid hlm
    clear hs h5 h hown hnews hlm
    go_enter Try.func16, Try.ntmps16
    go_wp2_with (at_builtin; refine wpList_append_own _ rfl _ _ 22 rfl w.heap.size 3 i0 (.int .i64 0) 1 8 Try.underlying22 hi hz0 hz1 hz2 rfl (by decide) _ _ _ rfl HOWN.out ad a.length cap (a.map (Value.int .i64)) rfl ?c1 HNEWS.out ?c3 ?c4 ?c5 ?c6 ?_)
    case c1 => simp
    case c3 => exact fun u hu => by obtain ⟨x, _, rfl⟩ := List.mem_map.1 hu; rfl
    case c4 => rw [HLM.out]; omega
    case c5 => omega
    case c6 => simp
    intro v' w1 hown' hgrow _
    have hs' := SlV.of_own hown'
    have ht' := TagV.of_own hown'
    have HS : Hid (SlT w1 v' a ∧ FreshFrom w.heap.size v') := ⟨⟨⟨HIN.out, hs'.1⟩, ht'⟩, hs'.2⟩
    clear hs' hown' ht'
    go_wp2
    go_ret
    exact ⟨_, rfl, HS.out.1, HS.out.2, ((Below.refl _ w).alloc (Nat.le_refl _) _).grown hgrow (by simp) (fun k hk => by simp [Value.ownBlock] at hk; omega)⟩

end Go.Proofs.Ytebmegodeglobaa

namespace Go.Proofs.Ytebmegodeglobaa
open Go.RowKit

def btw (n lo hi : Int) : Bool := decide (lo ≤ n) && decide (n ≤ hi)
theorem btw_iff {n lo hi : Int} : btw n lo hi = true ↔ lo ≤ n ∧ n ≤ hi := by unfold btw; simp
theorem btw_no {n lo hi : Int} (h : ¬ (lo ≤ n ∧ n ≤ hi)) : btw n lo hi = false := by
  cases hb : btw n lo hi with
  | false => rfl
  | true => exact absurd (btw_iff.1 hb) h

set_option maxHeartbeats 1000000 in
theorem cbetween_c (w : World) (n lo hi : Int) : Calls Try.prog 24 #[.int .i64 n, .int .i64 lo, .int .i64 hi] w fun e w' => e = .returned (.bool (btw n lo hi)) ∧ w' = w := by
  by_cases h1 : lo ≤ n
  · by_cases h2 : n ≤ hi
    · have hs : Hid (btw n lo hi = true) := btw_iff.2 ⟨h1, h2⟩
      go_enter Try.func24, Try.ntmps24
      go_wp2
      go_ret
      exact ⟨ret_bool hs.out.symm, rfl⟩
    · have hs : Hid (btw n lo hi = false) := btw_no (fun h => h2 h.2)
      go_enter Try.func24, Try.ntmps24
      go_wp2
      go_ret
      exact ⟨ret_bool hs.out.symm, rfl⟩
  · have hs : Hid (btw n lo hi = false) := btw_no (fun h => h1 h.1)
    go_enter Try.func24, Try.ntmps24
    go_wp2
    go_ret
    exact ⟨ret_bool hs.out.symm, rfl⟩

theorem count_succ' {l : List Bool} {k : Nat} (h : k < l.length) : (l.take (k + 1)).count true = (l.take k).count true + if atb l k = true then 1 else 0 := by
  rw [List.take_succ_eq_append_getElem h, ← atb_get h, List.count_append]
  cases atb l k <;> rfl
theorem count_take_le (l : List Bool) (k : Nat) : (l.take k).count true ≤ k := Nat.le_trans List.count_le_length (by rw [List.length_take]; omega)
set_option maxHeartbeats 1000000 in
theorem failures_c (w : World) (v : Value) (bs : List Bool) (h : SlB w v bs) : Calls Try.prog 17 #[v] w fun e w' => e = .returned (.int .i64 ((bs.count true : Nat) : Int)) ∧ w' = w := by
  obtain ⟨p, c, rfl, h2, h3, _⟩ := h.shape
  have HC := Lib.hid h
  clear h
  have hlen : bs.length ≤ 9223372036854775807 := by omega
  go_enter Try.func17, Try.ntmps17
  go_wp2
  go_loop [3, 8] (fun n i => ∃ k : Nat, k ≤ bs.length ∧ i = .int .i64 (k : Int) ∧ n = .int .i64 (((bs.take k).count true : Nat) : Int)) (fun _ i => bs.length - (intOf i).toNat)
  case atStart => exact ⟨0, Nat.zero_le _, rfl, by simp⟩
  case round =>
    obtain ⟨k, hk, rfl, rfl⟩ := hrel
    by_cases hlt : k < bs.length
    · obtain ⟨b, off, rfl, hb, hc⟩ := HC.out.cells (by omega)
      have hck := hc k hlt
      have hle := count_take_le bs k
      clear hc
      cases hv : atb bs k with
      | true =>
        have HS : Hid ((bs.take (k + 1)).count true = (bs.take k).count true + 1) := by show _ = _; rw [count_succ' hlt, hv]; rfl
        rw [hv] at hck
        clear hv
        go_wp2
        go_round
        case rel => exact ⟨k + 1, by omega, by go_num, by rw [HS.out]; go_num⟩
        case measure => simp [intOf]; omega
      | false =>
        have HS : Hid ((bs.take (k + 1)).count true = (bs.take k).count true) := by show _ = _; rw [count_succ' hlt, hv]; rfl
        rw [hv] at hck
        clear hv
        go_wp2
        go_round
        case rel => exact ⟨k + 1, by omega, by go_num, by rw [HS.out]⟩
        case measure => simp [intOf]; omega
    · obtain rfl : k = bs.length := by omega
      go_wp2
      go_ret
      exact ⟨rfl, rfl⟩
end Go.Proofs.Ytebmegodeglobaa

namespace Go.Proofs.Ytebmegodeglobaa
open Go.RowKit

theorem key_int (x : Int) : Go.WideAt.IsKeyLit (.int .i64 x) := trivial
open Classical in
theorem atKey_fold (u z : DataW Nat) (k : Lit) : ∀ (acc : List Lit) (m : DataW Nat), Maps.IsMap m → (∀ x ∈ acc, Go.WideAt.IsKeyLit x) → (acc.foldl (fun m x => m.put x u) m).atKey k z = if k ∈ acc then u else m.atKey k z
  | [], m, _, _ => by simp
  | x :: acc, m, hm, hk => by
    rw [List.foldl_cons, atKey_fold u z k acc _ (hm.put x u) fun y hy => hk y (List.mem_cons_of_mem _ hy)]
    by_cases h1 : k ∈ acc
    · rw [if_pos h1, if_pos (List.mem_cons_of_mem _ h1)]
    · rw [if_neg h1]
      by_cases h2 : k = x
      · subst h2
        rw [Maps.atKey_put_same hm (hk k (List.mem_cons_self ..)), if_pos (List.mem_cons_self ..)]
      · rw [Maps.atKey_put_other h2, if_neg (by rw [List.mem_cons]; rintro (h | h); exact h2 h; exact h1 h)]
/-- The map of the hosts seen. -/
def seenD (l : List Int) : DataW Nat := Maps.setOf (.lit (.bool true)) (l.map (Lit.int .i64))
theorem seenD_nil : seenD [] = .map [] := rfl
theorem seenD_succ {l : List Int} {k : Nat} (h : k < l.length) : (seenD (l.take k)).put (.int .i64 (ati l k)) (.lit (.bool true)) = seenD (l.take (k + 1)) := by
  unfold seenD
  rw [take_succ_ati h, List.map_append, List.map_singleton, Maps.setOf_snoc]
theorem seenD_at (l : List Int) (x : Int) : (seenD l).atKey (.int .i64 x) (.lit (.bool false)) = .lit (.bool (decide (x ∈ l))) := by
  unfold seenD Maps.setOf
  rw [atKey_fold _ _ _ _ _ Maps.isMap_empty (fun y hy => by obtain ⟨z, _, rfl⟩ := List.mem_map.1 hy; exact trivial)]
  have hm : (Lit.int .i64 x ∈ l.map (Lit.int .i64)) ↔ x ∈ l := by
    rw [List.mem_map]
    constructor
    · rintro ⟨y, hy, e⟩; injection e with _ e; rwa [← e]
    · intro h; exact ⟨x, h, rfl⟩
  by_cases h : x ∈ l
  · rw [if_pos (hm.2 h), decide_eq_true h]
  · rw [if_neg (fun hh => h (hm.1 hh)), decide_eq_false h]; rfl
theorem plainElem_bool_inv {P : Program} {e : TypeId} (he : P.underlying e = some .bool) {v : Value} {b : Bool} {ps : List MemPlace} (h : plainElem (H := Nat) P e v = some (.lit (.bool b), ps)) : v = .bool b := by
  unfold plainElem at h
  rw [he] at h
  cases v <;> simp at h
  rw [h.1]
theorem mapLaw : Maps.Keyed Try.prog 3 := Maps.int_keyed Try.underlying3
theorem zeroBool (w : World) : (zeroValue 4).run Try.prog w = .ok (.bool false) w := by kernel_rfl
theorem key_of {x : Int} (h : In64 x) : keyOf Try.prog 3 (.int .i64 x) = some (.int .i64 x) := Maps.keyOf_int_mk Try.underlying3 (WalkArith.wf_i64 h)
/-- Asking whether a host was seen. -/
theorem seen_run {w : World} {b n : Nat} {l : List Int} {x : Int} (h : w.ownsMap Try.prog 3 (plainElem Try.prog 4) b n (seenD l)) (hx : In64 x) :
    (Instr.lookup 67 (.map (some b)) (.int .i64 x) false).run Try.prog w = .ok (.bool (decide (x ∈ l))) w := by
  obtain ⟨v, ps, hrun, hv⟩ := h.lookup mapLaw Try.underlying67 (zeroBool w) (plainElem_bool Try.underlying4 false) (key_of hx)
  rw [seenD_at] at hv
  rw [hrun, plainElem_bool_inv Try.underlying4 hv]
theorem critF_ok {X Y : F} {r : Int × Int} (h : critF 0 X Y r) : r.2 = 0 ↔ rateE X = 0 ∧ fracE Y = 0 := by
  have ht : trialsB 0 0 0 = true := rfl
  unfold critF at h
  rw [ht] at h
  constructor
  · intro h0
    by_cases hc : checkE X true = 0 ∧ fracE Y = 0
    · exact ⟨(checkE_zero hc.1).1, hc.2⟩
    · rw [if_neg hc] at h
      rw [h] at h0
      simp only at h0
      split at h0 <;> omega
  · rintro ⟨h1, h2⟩
    rw [if_pos ⟨checkE_true h1, h2⟩] at h
    obtain ⟨m, rfl, _⟩ := h
    rfl

set_option maxRecDepth 100000 in
set_option maxHeartbeats 4000000 in
theorem cValid_c (w : World) (v : Value) (R : Ro) (h : IsR w v R) : Calls Try.prog 11 #[v] w (RetC w (ValidR R)) := by
  obtain ⟨p0, p1, p2, p3, p4, p5, k0, k1, k2, k3, k4, k5, rfl, h0, h1, h2, h3⟩ := h.open
  obtain ⟨W0, hW, bx, hsz, hb0⟩ : ∃ W0, W0 = w.alloc (.cells #[.slice p0 R.hosts.length k0, .slice p1 R.waves.length k1, .bool R.rate.neg, .slice p2 R.rate.num.length k2, .slice p3 R.rate.den.length k3, .bool R.bound.neg, .slice p4 R.bound.num.length k4, .slice p5 R.bound.den.length k5] 28) ∧
      Box W0 w.heap.size #[.slice p0 R.hosts.length k0, .slice p1 R.waves.length k1, .bool R.rate.neg, .slice p2 R.rate.num.length k2, .slice p3 R.rate.den.length k3, .bool R.bound.neg, .slice p4 R.bound.num.length k4, .slice p5 R.bound.den.length k5] 28 ∧ W0.heap.size = w.heap.size + 1 ∧ Below w.heap.size w W0 :=
    ⟨_, rfl, Box.new w _ _, by simp, held_alloc (Below.refl _ w)⟩
  have H0 := Lib.hid (h0.after hb0)
  have H1 := Lib.hid (h1.after hb0)
  have H2 := Lib.hid (h2.after hb0)
  have H3 := Lib.hid (h3.after hb0)
  have HB := Lib.hid hb0
  have BX := Lib.hid bx
  obtain ⟨b0, b1, b2, b3, b4, b5, b6, b7⟩ := bx.cells8
  have hmm := @run_makeMap Try.prog
  have hbx := bx.lt
  have hin : Hid (∀ z ∈ R.hosts, In64 z) := h0.1
  have hinw : Hid (∀ z ∈ R.waves, In64 z) := h1.1
  obtain ⟨_, _, e1, m1, m2, _⟩ := h1.shape
  have hwl : R.waves.length ≤ 9223372036854775807 := by omega
  clear h h0 h1 h2 h3 hb0 bx e1 m1 m2 hsz
  by_cases hL : 1 ≤ R.hosts.length ∧ R.hosts.length ≤ 16
  · obtain ⟨hl1, hl2⟩ := hL
    have hB : Hid (btw (R.hosts.length : Int) 1 16 = true) := btw_iff.2 ⟨by omega, by omega⟩
    go_enter Try.func11, Try.ntmps11
    go_upto_region 1 with fail
    rw [← hW]
    clear hW
    go_wp2_with fail
    refine (cbetween_c _ _ _ _).mono ?_
    rintro e w' ⟨rfl, rfl⟩
    rw [hB.out]
    go_wp2_with fail
    obtain ⟨W1, hW1⟩ : ∃ W1, W1 = w'.alloc (.map #[] 0) := ⟨_, rfl⟩
    have hb1 : Below w'.heap.size w' W1 := hW1 ▸ held_alloc (Below.refl _ w')
    have hown : W1.ownsMap Try.prog 3 (plainElem (H := Nat) Try.prog 4) w'.heap.size 0 (seenD (R.hosts.take 0)) := hW1 ▸ World.ownsMap_made w' Try.prog 3 _
    have HOWN := Lib.hid hown
    have HB1 := Lib.hid hb1
    rw [← hW1]
    clear hW1 hown hb1
    go_loopg [20] R.hosts.length (fun g t wr => ∃ k : Nat, k ≤ R.hosts.length ∧ g = R.hosts.length - k ∧ t = .int .i64 (k : Int) ∧ Hid (HostsOk R k) ∧ Hid (wr.ownsMap Try.prog 3 (plainElem (H := Nat) Try.prog 4) w'.heap.size k (seenD (R.hosts.take k))) ∧ Hid (Below w'.heap.size w' wr))
    case atStart => exact ⟨0, Nat.zero_le _, rfl, rfl, hostsOk_zero R, HOWN.out, HB1.out⟩
    case round =>
      obtain ⟨k, hk, rfl, rfl, hok, hown, hbl⟩ := hrel
      clear HOWN HB1
      by_cases hlt : k < R.hosts.length
      · obtain ⟨b, off, rfl, hbl2, hc⟩ := (H0.out.after hbl.out).cells (by omega)
        have hck := hc k hlt
        have hx : Hid (In64 (ati R.hosts k)) := hin.out _ (ati_mem hlt)
        have hrun := seen_run hown.out hx.out
        have HK := Lib.hid hlt
        clear hc
        obtain ⟨x, hxe⟩ : ∃ x, ati R.hosts k = x := ⟨_, rfl⟩
        rw [hxe] at hck hrun
        have HXE := Lib.hid hxe
        by_cases hr : 0 ≤ x ∧ x ≤ 15
        · have hB2 : Hid (btw x 0 15 = true) := btw_iff.2 hr
          obtain ⟨hr1, hr2⟩ := hr
          by_cases hm : x ∈ R.hosts.take k
          · have hno : Hid (¬ ValidR R) := hosts_twice hlt (by rw [hxe]; exact hm)
            rw [decide_eq_true hm] at hrun
            clear hm hxe
            go_wp2_with fail
            refine (cbetween_c _ _ _ _).mono ?_
            rintro e w2 ⟨rfl, rfl⟩
            rw [hB2.out]
            go_wp2_with fail
            go_ret
            exact ⟨false, rfl, ⟨(fun h => by cases h), fun h => absurd h hno.out⟩, HB.out.trans (hbl.out.mono HB.out.size)⟩
          · rw [decide_eq_false hm] at hrun
            have HOK : Hid (HostsOk R (k + 1)) := hostsOk_succ hok.out hlt (by rw [hxe]; exact hr1) (by rw [hxe]; exact hr2) (by rw [hxe]; exact hm)
            clear hm hxe
            go_wp2_with fail
            refine (cbetween_c _ _ _ _).mono ?_
            rintro e w2 ⟨rfl, rfl⟩
            rw [hB2.out]
            go_wp2_with (at_mapUpdate; refine wpList_mapUpdate_own _ rfl _ _ _ 67 rfl 3 4 mapLaw Try.underlying67 _ w'.heap.size k _ rfl hown.out (by unfold maxLen; omega) _ _ _ rfl rfl (key_of (by rw [← HXE.out]; exact hx.out)) _ [] (plainElem_bool Try.underlying4 true) ?_)
            intro w1 hown1 hgrow1
            have HO1 : Hid (w1.ownsMap Try.prog 3 (plainElem (H := Nat) Try.prog 4) w'.heap.size (k + 1) (seenD (R.hosts.take (k + 1)))) := by
              rw [← HXE.out, seenD_succ HK.out] at hown1; exact hown1
            have HB3 : Hid (Below w'.heap.size w' w1) := hbl.out.grown hgrow1 hbl.out.size (fun g e => by injection e with e; omega)
            clear hown1 hgrow1 hrun hck hown hbl
            go_wp2_with fail
            go_roundg (R.hosts.length - (k + 1))
            case measure => omega
            case rel => exact ⟨k + 1, by omega, rfl, by go_num, HOK.out, HO1.out, HB3.out⟩
        · have hB2 : Hid (btw x 0 15 = false) := btw_no hr
          have hno : Hid (¬ ValidR R) := hosts_range hlt (by rw [hxe]; exact hr)
          clear hr hrun hxe
          go_wp2_with fail
          refine (cbetween_c _ _ _ _).mono ?_
          rintro e w2 ⟨rfl, rfl⟩
          rw [hB2.out]
          go_wp2_with fail
          go_ret
          exact ⟨false, rfl, ⟨(fun h => by cases h), fun h => absurd h hno.out⟩, HB.out.trans (hbl.out.mono HB.out.size)⟩
      · obtain rfl : k = R.hosts.length := by omega
        obtain ⟨wo, rfl⟩ : ∃ wo : World, wo = wr := ⟨_, rfl⟩
        have hbw := hbl.out
        obtain ⟨b0, b1, b2, b3, b4, b5, b6, b7⟩ := (BX.out.after hbw).cells8
        have H1' := Lib.hid (H1.out.after hbw)
        have H2' := Lib.hid (H2.out.after hbw)
        have H3' := Lib.hid (H3.out.after hbw)
        have HBW := Lib.hid (HB.out.trans (hbw.mono HB.out.size))
        clear hbw hown hbl H0 H1 H2 H3 hin
        go_wp2_with fail
        go_loop [6, 41] (fun l t => ∃ (k : Nat) (L : Int), k ≤ R.waves.length ∧ t = .int .i64 (k : Int) ∧ l = .int .i64 L ∧ Hid (WavesOk R k) ∧ Hid (L = (R.hosts.length : Int) - (R.waves.take k).sum) ∧ 0 ≤ L ∧ L ≤ 16) (fun _ t => R.waves.length - (intOf t).toNat)
        case atStart => exact ⟨0, _, Nat.zero_le _, rfl, rfl, wavesOk_zero R, by show _ = _; simp, by omega, by omega⟩
        case round =>
          obtain ⟨k, L, hk, rfl, rfl, hwok, hL, hL0, hL1⟩ := hrel
          by_cases hlt2 : k < R.waves.length
          · obtain ⟨b, off, rfl, hbl2, hc⟩ := H1'.out.cells (by omega)
            have hck := hc k hlt2
            clear hc
            obtain ⟨x, hxe⟩ : ∃ x, ati R.waves k = x := ⟨_, rfl⟩
            rw [hxe] at hck
            by_cases hr : 1 ≤ x ∧ x ≤ L
            · have hB2 : Hid (btw x 1 L = true) := btw_iff.2 hr
              obtain ⟨hr1, hr2⟩ := hr
              have HW : Hid (WavesOk R (k + 1)) := wavesOk_succ hwok.out hlt2 (by rw [hxe]; exact hr1)
              have HL : Hid (L - x = (R.hosts.length : Int) - (R.waves.take (k + 1)).sum) := by show _ = _; rw [sum_succ hlt2, hxe, hL.out]; omega
              clear hxe hwok hL
              go_wp2_with fail
              refine (cbetween_c _ _ _ _).mono ?_
              rintro e w2 ⟨rfl, rfl⟩
              rw [hB2.out]
              go_wp2_with fail
              go_round
              case measure => simp [intOf]; omega
              case rel => exact ⟨k + 1, L - x, by omega, by go_num, rfl, HW.out, HL.out, by omega, by omega⟩
            · have hB2 : Hid (btw x 1 L = false) := btw_no hr
              have hno : Hid (¬ ValidR R) := by
                rw [hL.out] at hr
                by_cases h1 : 1 ≤ x
                · exact wave_high hlt2 (by rw [hxe]; omega)
                · exact wave_low hlt2 (by rw [hxe]; exact h1)
              clear hxe hr hwok hL
              go_wp2_with fail
              refine (cbetween_c _ _ _ _).mono ?_
              rintro e w2 ⟨rfl, rfl⟩
              rw [hB2.out]
              go_wp2_with fail
              go_ret
              exact ⟨false, rfl, ⟨(fun h => by cases h), fun h => absurd h hno.out⟩, HBW.out⟩
          · obtain rfl : k = R.waves.length := by omega
            have hLs := hL.out
            rw [List.take_length] at hLs
            have HLS := Lib.hid hLs
            clear hL hLs
            go_wp2_with fail
            refine (tCritical_c _ 0 _ _ R.rate R.bound H2'.out H3'.out).mono ?_
            rintro e w3 ⟨⟨r1, r2⟩, rfl, hru, hb3⟩
            have hfin := critF_ok hru
            have HF := Lib.hid hfin
            have HB3 := Lib.hid (HBW.out.trans (hb3.mono HBW.out.size))
            clear hru hb3 hfin b0 b1 b2 b3 b4 b5 b6 b7
            by_cases hz : L = 0
            · subst hz
              by_cases he : r2 = 0
              · subst he
                go_wp2_with fail
                go_ret
                exact ⟨true, rfl, ⟨fun _ => validR_all hl1 hl2 hok.out hwok.out (by have := HLS.out; omega) (HF.out.1 (by trivial)).1 (HF.out.1 (by trivial)).2, fun _ => rfl⟩, HB3.out⟩
              · have hb : (r2 == 0) = false := by rw [beq_eq_false_iff_ne]; exact he
                have hno : Hid (¬ ValidR R) := fun hv => he (HF.out.2 ⟨hv.2.2.2.2.2.2.1, hv.2.2.2.2.2.2.2⟩)
                clear he
                go_wp2_with fail
                go_ret
                exact ⟨false, rfl, ⟨(fun h => by cases h), fun h => absurd h hno.out⟩, HB3.out⟩
            · have hb : (L == 0) = false := by rw [beq_eq_false_iff_ne]; exact hz
              have hno : Hid (¬ ValidR R) := fun hv => hz (by have := HLS.out; rw [hv.2.2.2.2.2.1] at this; omega)
              clear hz
              go_wp2_with fail
              go_ret
              exact ⟨false, rfl, ⟨(fun h => by cases h), fun h => absurd h hno.out⟩, HB3.out⟩
  · have hB : Hid (btw (R.hosts.length : Int) 1 16 = false) := btw_no (fun h => hL ⟨by omega, by omega⟩)
    have hno : Hid (¬ ValidR R) := fun hv => hL ⟨hv.1, hv.2.1⟩
    go_enter Try.func11, Try.ntmps11
    go_upto_region 1 with fail
    rw [← hW]
    clear hW
    go_wp2_with fail
    refine (cbetween_c _ _ _ _).mono ?_
    rintro e w' ⟨rfl, rfl⟩
    rw [hB.out]
    go_wp2_with fail
    go_ret
    exact ⟨false, rfl, ⟨(fun h => by cases h), fun h => absurd h hno.out⟩, HB.out⟩
end Go.Proofs.Ytebmegodeglobaa

namespace Go.Proofs.Ytebmegodeglobaa

theorem wide_fn (f : FuncId) : Fence.wide.fn f = True := eq_true trivial
/-- No operation is put off. -/
def noDefer (ops : List Oper) : Bool := ops.all fun o => match o.op with
  | .defer _ => false
  | _ => true
theorem noDefer_spec {ops : List Oper} (h : noDefer ops = true) {o : Oper} (ho : o ∈ ops) : ∀ c, o.op ≠ .defer c := by
  intro c e
  have := List.all_eq_true.1 h o ho
  rw [e] at this
  cases this
section
variable {F : Fence} {n : Nat} {P : Program} {ops : Array Oper} {md : Region.Mode} {C : World → Prop}
theorem quiet_op {o : Oper} {a : Act} {K : Act → Prop} {K' : Act → World → Prop} {Q' : Exit → Act → World → Prop} {w : World} (hd : ∀ c, o.op ≠ .defer c) (hw : C w) (h : ∀ a w', C w' → K a → K' a w')
    (ha : o.askedIn F P a C) (hh : o.quietIn F n P a C K) : o.wpIn F n P a w K' Q' := by
  obtain ⟨v, h1, h2⟩ := hh
  have h3 := h1 w hw
  unfold Oper.quietAtIn at h3
  unfold Oper.wpIn
  refine ⟨ha w hw, ?_⟩
  rw [Oper.semAt_eq _ _ _ hd]
  generalize (execOp a.eval o).run P w = r at *
  cases r with
  | ok x w' =>
    cases x <;> simp only [Oper.quietUponIn] at h3 <;> simp only [Oper.uponIn]
    case value u =>
      obtain ⟨e1, e2⟩ := h3
      rw [e1, e2]
      exact h _ _ hw h2
    case skip =>
      obtain ⟨e1, e2⟩ := h3
      rw [e1, ← e2]
      exact h _ _ hw h2
    case enter f args =>
      obtain ⟨e1, hd, hc⟩ := h3
      rw [e1]
      exact ⟨hd, hc.mono fun e w'' ⟨he, hw''⟩ => by subst he; exact h _ _ hw'' h2⟩
  | halt x w' => simp only [Oper.quietUponIn] at h3
theorem quiet_i {i : Nat} {a : Act} {K : Act → Prop} {K' : Act → World → Prop} {Q' : Exit → Act → World → Prop} {w : World} (hd : noDefer ops.toList = true) (hC : C w) (h : ∀ a w', C w' → K a → K' a w')
    (hh : qOpIn F n P ops C i K a) : wpOpIn F n P ops Q' i K' a w := by
  unfold qOpIn at hh
  unfold wpOpIn
  split
  · rename_i ho; simp only [ho] at hh; exact h _ _ hC hh
  · rename_i o ho
    simp only [ho] at hh
    obtain ⟨ha, hh⟩ := hh
    have hmem : o ∈ ops.toList := by
      rw [← Array.getElem?_toList] at ho
      exact List.mem_of_getElem? ho
    split
    · rename_i hw; simp only [hw, if_true] at hh; exact quiet_op (noDefer_spec hd hmem) hC h ha hh
    · rename_i hw; simp only [hw] at hh; exact ⟨ha w hC, h _ _ hC hh⟩
theorem quiet_any {Q : Act → Prop} {Q' : Exit → Act → World → Prop} (hd : noDefer ops.toList = true) (hQ : ∀ a w, C w → Q a → Q' .normal a w) : ∀ (fuel : Nat) (listed : Array Bool) (a : Act) (w : World), C w →
    wpAnyQIn F n P md ops C Q fuel listed a → wpAnyIn F n P md ops Q' fuel listed a w
  | 0, _, _, _, hw, h => ⟨h.1, hQ _ _ hw h.2⟩
  | fuel + 1, _, _, _, hw, h => ⟨fun h0 => hQ _ _ hw (h.1 h0), fun i hi => quiet_i hd hw (fun a' w' hw' => quiet_any hd hQ fuel _ a' w' hw') (h.2 i hi)⟩
theorem wpIn_quiet_round {id : Nat} {Q : Exit → Act → World → Prop} {a : Act} {w : World} {l : List Oper} (hd : noDefer l = true) (hm : P.follows .mixedOrders = true) (hB : Region.lexB .any l.toArray = true)
    (h : wpQuietIn F n P l.toArray (fun w' => ∃ n, w' = w.drewN n) (fun a' => ∀ w', (∃ n, w' = w.drewN n) → Q .normal a' w') l a) : (Code.region id l.toArray true).wpIn F n P Q a w := by
  simp only [Region.lexB, Bool.and_eq_true] at hB
  refine wpIn_region_any hm (quiet_any (C := fun w' => ∃ n, w' = w.drewN n) (Q := fun a' => ∀ w', (∃ n, w' = w.drewN n) → Q .normal a' w') (by simpa using hd) (fun _ w' hw' h => h w' hw') _ _ _ _ ⟨1, rfl⟩ ?_)
  have := wpAnyQIn_lex (F := F) (n := n) (C := fun w' => ∃ n, w' = w.drewN n) (md := .any) hB.1 l 0 (Array.replicate l.toArray.size false) a (by simp) (by simpa using hB.2) (by simpa using h)
  simpa using this
end
end Go.Proofs.Ytebmegodeglobaa
