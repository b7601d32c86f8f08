/- Walks of package tails: down, at.
   Walks of package tails: Tail.
   Walks of package tails: is a part above a bound? -/
import Derived.Test.YtjjefdkadgkhfaaK14
set_option linter.unusedVariables false
namespace Go.Proofs.Ytjjefdkadgkhfaa
open Go.RowKit Go.Shelf
attribute [local go_sem] Oper.semAt_some

theorem VarF.grown {w w' : World} {b : Nat} {x : F} {row : Option Nat} (h : VarF w b x) (hg : w.grownBy w' row) (hr : ∀ g, row = some g → ¬ Tag32 w g) (hb : some b ≠ row) : VarF w' b x := by
  obtain ⟨va, vb, h1, h2, h3⟩ := h
  exact ⟨va, vb, h1.grown hg hb, h2.grown hg hr, h3.grown hg hr⟩
theorem VarF.of_set {w : World} {R : Nat} {b : Bool} {x : F} {va vb : Value} (hR : Box w R #[.bool false, .slice none 0 0, .slice none 0 0] 30) (h : IsF w (.agg #[.bool b, va, vb]) x) : VarF (((w.setCell ⟨R, 0, none⟩ (.bool b)).setCell ⟨R, 1, none⟩ va).setCell ⟨R, 2, none⟩ vb) R x := by
  obtain ⟨e, ha, hb⟩ := h.parts
  injection e with e
  subst e
  obtain ⟨_, h1, h2⟩ := (IsF.result (neg := x.neg) hR (fun _ h => by cases h) (fun _ h => by cases h) ha hb).parts
  exact ⟨va, vb, end_box hR, h1, h2⟩
theorem set3_below {B : Nat} {w w2 : World} {R : Nat} {y0 y1 y2 : Value} (h : Below B w w2) (hR : B ≤ R) : Below B w (((w2.setCell ⟨R, 0, none⟩ y0).setCell ⟨R, 1, none⟩ y1).setCell ⟨R, 2, none⟩ y2) := ((h.setCell hR _).setCell hR _).setCell hR _
theorem set3_block {w2 : World} {R b : Nat} {y0 y1 y2 : Value} (h : b ≠ R) : (((w2.setCell ⟨R, 0, none⟩ y0).setCell ⟨R, 1, none⟩ y1).setCell ⟨R, 2, none⟩ y2).heap[b]? = w2.heap[b]? :=
  (Below.heap_setCell _ ⟨R, 2, none⟩ _ b h).trans ((Below.heap_setCell _ ⟨R, 1, none⟩ _ b h).trans (Below.heap_setCell _ ⟨R, 0, none⟩ _ b h))
theorem set3_size {w2 : World} {R : Nat} {y0 y1 y2 : Value} : (((w2.setCell ⟨R, 0, none⟩ y0).setCell ⟨R, 1, none⟩ y1).setCell ⟨R, 2, none⟩ y2).heap.size = w2.heap.size := by simp [World.setCell]
theorem noTag_def {W : World} {D : Nat} {o : Obj} (h : W.heap[D]? = some o) (ho : o.isCells = false) : ∀ g, some D = some g → ¬ Tag32 W g := by
  rintro g e ⟨cs, fz, h'⟩
  injection e with e
  subst e
  rw [h] at h'
  injection h' with h'
  subst h'
  cases ho
/-- The five cells of a spread. -/
def spCells (n : Nat) (va vb : Value) (c2 c9 c10 : Nat) : Array Value := #[.int .i64 (n : Int), .bool false, va, vb, .func (.func 70) #[] #[.pointer (some ⟨c2, 0, none⟩), .pointer (some ⟨c9, 0, none⟩), .pointer (some ⟨c10, 0, none⟩)]]

set_option maxRecDepth 100000 in
set_option maxHeartbeats 1000000 in
theorem down_t (w : World) (n c2 c9 c10 : Nat) (p q : Option Addr) (l1 l2 k1 k2 : Nat) :
    Calls Try.prog 67 #[.agg #[.int .i64 (n : Int), .bool false, .slice p l1 k1, .slice q l2 k2, .func (.func 70) #[] #[.pointer (some ⟨c2, 0, none⟩), .pointer (some ⟨c9, 0, none⟩), .pointer (some ⟨c10, 0, none⟩)]]] w
      fun e w' => e = .returned (.func (.func 87) #[] #[.pointer (some ⟨w.heap.size, 0, none⟩)]) ∧ w' = w.alloc (.cells (spCells n (.slice p l1 k1) (.slice q l2 k2) c2 c9 c10) 93) := by
  go_enter Try.func67, Try.ntmps67
  go_wp2
  go_ret
  exact ⟨rfl, rfl⟩

set_option maxRecDepth 100000 in
set_option maxHeartbeats 4000000 in
theorem at_t (w : World) (v : Value) (n a c k : Nat) (h : IsSp w v n a c) (hn : n ≤ 64) (hac : a + c ≤ 1000) (hk : k < 9223372036854775808) :
    Calls Try.prog 48 #[v, .int .i64 (k : Int)] w (RetF1 w (Wh (tl a c n k))) := by
  obtain ⟨va, vb, c2, c9, c10, rfl, h1, h2, hpart⟩ := h
  obtain ⟨p, cp, rfl, _, _⟩ := h1.shape
  obtain ⟨q, cq, rfl, _, _⟩ := h2.shape
  obtain ⟨W0, hW, bS, bK, bR, hsz, hb0⟩ : ∃ W0, W0 = ((w.alloc (.cells (spCells n (.slice p (limbs ((a + c) ^ n)).length cp) (.slice q (limbs 1).length cq) c2 c9 c10) 93)).alloc (.cells #[.int .i64 (k : Int)] 3)).alloc (.cells #[.bool false, .slice none 0 0, .slice none 0 0] 30) ∧
      Box W0 w.heap.size (spCells n (.slice p (limbs ((a + c) ^ n)).length cp) (.slice q (limbs 1).length cq) c2 c9 c10) 93 ∧ Box W0 (w.heap.size + 1) #[.int .i64 (k : Int)] 3 ∧ Box W0 (w.heap.size + 2) #[.bool false, .slice none 0 0, .slice none 0 0] 30 ∧ W0.heap.size = w.heap.size + 3 ∧ Below w.heap.size w W0 := by
    refine ⟨_, rfl, ((Box.new w _ _).alloc _).alloc _, ?_, ?_, by simp, held_alloc (held_alloc (held_alloc (Below.refl _ w)))⟩
    · have := (Box.new (w.alloc (.cells (spCells n (.slice p (limbs ((a + c) ^ n)).length cp) (.slice q (limbs 1).length cq) c2 c9 c10) 93)) #[.int .i64 (k : Int)] 3).alloc (.cells #[.bool false, .slice none 0 0, .slice none 0 0] 30)
      simpa using this
    · have := (Box.new ((w.alloc (.cells (spCells n (.slice p (limbs ((a + c) ^ n)).length cp) (.slice q (limbs 1).length cq) c2 c9 c10) 93)).alloc (.cells #[.int .i64 (k : Int)] 3)) #[.bool false, .slice none 0 0, .slice none 0 0] 30)
      simpa using this
  obtain ⟨s0, s1, s2, s3, s4⟩ := (show Box W0 w.heap.size #[.int .i64 (n : Int), .bool false, .slice p (limbs ((a + c) ^ n)).length cp, .slice q (limbs 1).length cq, .func (.func 70) #[] #[.pointer (some ⟨c2, 0, none⟩), .pointer (some ⟨c9, 0, none⟩), .pointer (some ⟨c10, 0, none⟩)]] 93 from bS).cells5
  have hW' : W0 = ((w.alloc (.cells #[.int .i64 (n : Int), .bool false, .slice p (limbs ((a + c) ^ n)).length cp, .slice q (limbs 1).length cq, .func (.func 70) #[] #[.pointer (some ⟨c2, 0, none⟩), .pointer (some ⟨c9, 0, none⟩), .pointer (some ⟨c10, 0, none⟩)]] 93)).alloc (.cells #[.int .i64 (k : Int)] 3)).alloc (.cells #[.bool false, .slice none 0 0, .slice none 0 0] 30) := hW
  have BS := Lib.hid bS
  have BK := Lib.hid bK
  have BR := Lib.hid bR
  have HP := Lib.hid (hpart.after hb0)
  have HB0 := Lib.hid hb0
  have HN := Lib.hid hn
  have HAC := Lib.hid hac
  clear hW bS bK bR hb0 hpart h1 h2
  refine callsIn_wide (n := 6).1 (callsIn_of_wp_marks Try.func48 rfl trivial (wpIn_wide.2 ?_) rfl)
  simp only [Try.ntmps48, List.size_toArray, List.length_cons, List.length_nil, Nat.reduceAdd, Nat.reduceSub, Array.replicate_succ, Array.replicate_zero, List.push_toArray, List.append_toArray, List.nil_append, List.cons_append]
  go_upto_region 1 with fail
  rw [← hW']
  clear hW'
  go_wp2_with fail
  refine (down_t _ n c2 c9 c10 p q (limbs ((a + c) ^ n)).length (limbs 1).length cp cq).mono ?_
  rintro e w' ⟨rfl, rfl⟩
  obtain ⟨W1, hW1⟩ : ∃ W1, W1 = W0.alloc (.cells (spCells n (.slice p (limbs ((a + c) ^ n)).length cp) (.slice q (limbs 1).length cq) c2 c9 c10) 93) := ⟨_, rfl⟩
  have hb1 : Below W0.heap.size W0 W1 := hW1 ▸ held_alloc (Below.refl _ W0)
  have bI : Box W1 W0.heap.size (spCells n (.slice p (limbs ((a + c) ^ n)).length cp) (.slice q (limbs 1).length cq) c2 c9 c10) 93 := hW1 ▸ Box.new W0 _ _
  rw [hsz] at bI
  have BI := Lib.hid bI
  have BK1 := Lib.hid (BK.out.after hb1)
  have BR1 := Lib.hid (BR.out.after hb1)
  have HP1 := Lib.hid (HP.out.after hb1)
  have HB1 := Lib.hid (HB0.out.trans (hb1.mono HB0.out.size))
  have hsz1 : W1.heap.size = w.heap.size + 4 := by rw [hW1]; simp [hsz]
  rw [← hW1]
  clear hW1 hb1 bI s0 s1 s2 s3 s4 BS BK BR HP
  go_wp2_with fail
  refine (wpIn_wide (n := 6)).1 (wpIn_range_quiet (n := 6) rfl (by omega) (gf := 87) (lb := #[.pointer (some ⟨w.heap.size + 3, 0, none⟩)]) rfl trivial (enters_of Try.func87 (by kernel_rfl) rfl) rfl n
    (fun j v W => IsF W v (Wh (tl a c n j))) (fun j => j ≠ k) (fun j W3 => j = k ∧ VarF W3 (w.heap.size + 2) (Wh (tl a c n k)) ∧ Below w.heap.size w W3)
    (fun l W2 Y hb hYY => callsIn_wide.2 (down1_t l (6 - 1 - 1) W2 (w.heap.size + 3) c2 c9 c10 n a c _ _ (BI.out.after hb) (HP1.out.after hb) HN.out HAC.out (fun j => j ≠ k) Y hYY))
    (fun j v a1 W w1 => ∃ (b : Bool) (px py : Option Addr) (lx cx ly cy : Nat), v = .agg #[.bool b, .slice px lx cx, .slice py ly cy] ∧ w1 = W.alloc (.cells #[.bool b, .slice px lx cx, .slice py ly cy] 30) ∧
      a1 = { tmps := #[Value.agg #[Value.int IntKind.i64 (n : Int), Value.bool false, Value.slice p (limbs ((a + c) ^ n)).length cp, Value.slice q (limbs 1).length cq, Value.func (Fn.func 70) #[] #[Value.pointer (some ⟨c2, 0, none⟩), Value.pointer (some ⟨c9, 0, none⟩), Value.pointer (some ⟨c10, 0, none⟩)]], Value.int IntKind.i64 (k : Int), Value.pointer (some ⟨w.heap.size, 0, none⟩), Value.pointer (some ⟨w.heap.size + 1, 0, none⟩), Value.pointer (some ⟨w.heap.size + 1 + 1, 0, none⟩), Value.int IntKind.i64 (j : Int), Value.pointer (some ⟨W.heap.size, 0, none⟩), Value.agg #[Value.int IntKind.i64 (n : Int), Value.bool false, Value.slice p (limbs ((a + c) ^ n)).length cp, Value.slice q (limbs 1).length cq, Value.func (Fn.func 70) #[] #[Value.pointer (some ⟨c2, 0, none⟩), Value.pointer (some ⟨c9, 0, none⟩), Value.pointer (some ⟨c10, 0, none⟩)]], Value.func (Fn.func 87) #[] #[Value.pointer (some ⟨w.heap.size + 3, 0, none⟩)], Value.int IntKind.i64 (j : Int), Value.agg #[Value.bool b, Value.slice px lx cx, Value.slice py ly cy], undef, undef, undef, undef, undef], defers := [] }) ?hA ?assign ?body ?done ?stop)
  case hA =>
    rintro j v a1 W w1 ⟨b, px, py, lx, cx, ly, cy, rfl, rfl, _⟩
    exact held_alloc (Below.refl _ W)
  case assign =>
    intro l j v W K hj hv hK
    obtain ⟨vx, vy, rfl, hx, hy⟩ := hv
    obtain ⟨px, cx, rfl, _, _⟩ := hx.shape
    obtain ⟨py, cy, rfl, _, _⟩ := hy.shape
    clear hx hy
    gi_wp2
    exact ⟨_, px, py, _, cx, _, cy, rfl, rfl, rfl⟩
  case body =>
    rintro l j v W w1 w2 a1 hj hC hbW hv ⟨b, px, py, lx, cx, ly, cy, rfl, rfl, rfl⟩ hl1 hl2 hgr htag
    have hv2 : IsF w2 (.agg #[.bool b, .slice px lx cx, .slice py ly cy]) (Wh (tl a c n j)) := (hv.alloc _).grown hgr (fun g e => by injection e with e; rw [← e]; exact htag)
    have bk2 : w2.cell? ⟨w.heap.size + 1, 0, none⟩ = some (.int .i64 (k : Int)) := (((BK1.out.after hbW).alloc _).grown hgr (by intro e; injection e with e; omega)).cell 0
    have br2 := ((BR1.out.after hbW).alloc (.cells #[.bool b, .slice px lx cx, .slice py ly cy] 30)).grown hgr (by intro e; injection e with e; omega)
    have bv2 := (Box.new W #[.bool b, .slice px lx cx, .slice py ly cy] 30).grown hgr (by intro e; injection e with e; omega)
    have hbw2 : Below w.heap.size w w2 := ((HB1.out.trans (hbW.mono HB1.out.size)).alloc (by have := hbW.size; omega) _).grown hgr (by have := hbW.size; simp; omega) (fun g e => by injection e with e; omega)
    obtain ⟨v0, v1, v2⟩ := bv2.cells3
    obtain ⟨r0, r1, r2⟩ := br2.cells3
    have f0 := br2.frozen 0
    have f1 := br2.frozen 1
    have f2 := br2.frozen 2
    have HV2 := Lib.hid hv2
    have HBR2 := Lib.hid br2
    have HBW2 := Lib.hid hbw2
    clear hv2 br2 bv2 hbw2 hgr htag hv hbW
    by_cases hjk : j = k
    · subst hjk
      gi_wp2
      refine ⟨⟨VarF.of_set HBR2.out HV2.out, set3_below HBW2.out (by omega)⟩, ?_, ?_⟩
      · rw [set3_size]; exact Nat.le_refl _
      · intro b h1 h2
        exact set3_block (by omega)
    · have hjk' : ((j : Int) == (k : Int)) = false := by rw [beq_eq_false_iff_ne]; omega
      gi_wp2
      exact ⟨hjk, Below.refl _ _⟩
  case done =>
    intro W hb hC hK
    have hkn : n < k := by
      rcases Nat.lt_or_ge n k with h | h
      · exact h
      · exact absurd rfl (hC k h)
    have hDl := (Array.getElem?_eq_some_iff.1 hK).1
    go_wp2_with fail
    refine (whole_c _ 0 (by omega)).mono ?_
    rintro e w3 ⟨v3, rfl, hv3, hb3⟩
    have br3 := (BR1.out.after hb).after hb3
    have hK3 : w3.heap[W1.heap.size]? = some (.deferred (some [])) := (hb3.block _ hDl).trans hK
    have HB3 := Lib.hid ((HB1.out.trans (hb.mono HB1.out.size)).trans (hb3.mono (by have := hb.size; omega)))
    have HV3 := Lib.hid hv3
    obtain ⟨vx, vy, rfl, h3, h4⟩ := hv3
    obtain ⟨px, cx, rfl, _, _⟩ := h3.shape
    obtain ⟨py, cy, rfl, _, _⟩ := h4.shape
    obtain ⟨r0, r1, r2⟩ := br3.cells3
    have f0 := br3.frozen 0
    have f1 := br3.frozen 1
    have f2 := br3.frozen 2
    have HBR3 := Lib.hid br3
    have HK3 := Lib.hid hK3
    clear h3 h4 hb3 br3 hK3 hK hb
    go_wp2_with fail
    have hK4 := (set3_block (w2 := w3) (R := w.heap.size + 1 + 1) (b := W1.heap.size) (y0 := .bool (Wh 0).neg) (y1 := .slice px (Wh 0).num.length cx) (y2 := .slice py (Wh 0).den.length cy) (by omega)).trans HK3.out
    rw [hsz1] at hK4
    refine ⟨by simp, .inl ⟨_, _, rfl, run_takeDeferred hK4, ?_⟩⟩
    have hV5 := (VarF.of_set HBR3.out HV3.out).grown (putObj_grown _ (w.heap.size + 4) (.deferred none)) (noTag_def hK4 rfl) (by intro e; injection e with e; omega)
    have hB5 := (set3_below (R := w.heap.size + 1 + 1) (y0 := .bool (Wh 0).neg) (y1 := .slice px (Wh 0).num.length cx) (y2 := .slice py (Wh 0).den.length cy) HB3.out (by omega)).grown (putObj_grown _ (w.heap.size + 4) (.deferred none)) (by rw [set3_size]; exact HB3.out.size) (fun g e => by injection e with e; omega)
    obtain ⟨W5, hW5⟩ : ∃ W5, W5 = ((((w3.setCell ⟨w.heap.size + 1 + 1, 0, none⟩ (.bool (Wh 0).neg)).setCell ⟨w.heap.size + 1 + 1, 1, none⟩ (.slice px (Wh 0).num.length cx)).setCell ⟨w.heap.size + 1 + 1, 2, none⟩ (.slice py (Wh 0).den.length cy)).putObj (w.heap.size + 4) (.deferred none)) := ⟨_, rfl⟩
    have hV6 : VarF W5 (w.heap.size + 1 + 1) (Wh 0) := by rw [hW5]; exact hV5
    have hB6 : Below w.heap.size w W5 := by rw [hW5]; exact hB5
    rw [← hW5]
    clear hW5 hV5 hB5 hK4 r0 r1 r2 f0 f1 f2 HBR3 HV3 HK3
    obtain ⟨va', vb', b5, s5, s6⟩ := hV6
    obtain ⟨e0, e1, e2⟩ := b5.cells3
    refine ⟨.agg #[.bool (Wh 0).neg, va', vb'], by simp [results, Try.results48, go_sem, e0, e1, e2], ?_⟩
    rw [tl_gt hkn]
    exact ⟨_, rfl, ⟨va', vb', rfl, s5, s6⟩, hB6⟩
  case stop =>
    rintro l j W3 W hj hC ⟨rfl, hx, hbx⟩ hl hgr htag hK
    gi_wp2
    refine ⟨by simp, .inl ⟨_, _, rfl, run_takeDeferred hK, ?_⟩⟩
    have hxl := hx.lt
    have hV4 := hx.grown hgr (fun g e => by injection e with e; rw [← e]; exact htag) (by intro e; injection e with e; omega)
    have hB4 := hbx.grown hgr hbx.size (fun g e => by injection e with e; omega)
    have hV5 := hV4.grown (putObj_grown W W1.heap.size (.deferred none)) (noTag_def hK rfl) (by intro e; injection e with e; omega)
    have hB5 := hB4.grown (putObj_grown W W1.heap.size (.deferred none)) hB4.size (fun g e => by injection e with e; omega)
    obtain ⟨W5, hW5⟩ : ∃ W5, W5 = W.putObj W1.heap.size (.deferred none) := ⟨_, rfl⟩
    rw [← hW5] at hV5 hB5 ⊢
    clear hW5
    obtain ⟨va', vb', b5, s5, s6⟩ := hV5
    obtain ⟨e0, e1, e2⟩ := (show Box W5 (w.heap.size + 1 + 1) _ _ from b5).cells3
    refine ⟨.agg #[.bool (Wh (tl a c n j)).neg, va', vb'], by simp [results, Try.results48, go_sem, e0, e1, e2], ?_⟩
    exact ⟨_, rfl, ⟨va', vb', rfl, s5, s6⟩, hB5⟩
end Go.Proofs.Ytjjefdkadgkhfaa

namespace Go.Proofs.Ytjjefdkadgkhfaa
open Go.RowKit

/-- What Tail returns. -/
noncomputable def tailF (n k : Int) (p : F) : F × Int :=
  if checkE p (trialsB n k (IntKind.i64.wrap (n + 1))) = 0 then made false (tl (val p.num) (val p.den - val p.num) n.toNat k.toNat) (val p.den ^ n.toNat) else (F0, checkE p (trialsB n k (IntKind.i64.wrap (n + 1))))

theorem keep5s {W : World} {R X : Nat} {u0 u1 u2 z a b c d : Value} (h : R ≠ X) (hs : W.cell? ⟨X, 0, none⟩ = some z ∧ W.cell? ⟨X, 1, none⟩ = some a ∧ W.cell? ⟨X, 2, none⟩ = some b ∧ W.cell? ⟨X, 3, none⟩ = some c ∧ W.cell? ⟨X, 4, none⟩ = some d) :
    (((W.setCell ⟨R, 0, none⟩ u0).setCell ⟨R, 1, none⟩ u1).setCell ⟨R, 2, none⟩ u2).cell? ⟨X, 0, none⟩ = some z ∧ (((W.setCell ⟨R, 0, none⟩ u0).setCell ⟨R, 1, none⟩ u1).setCell ⟨R, 2, none⟩ u2).cell? ⟨X, 1, none⟩ = some a ∧ (((W.setCell ⟨R, 0, none⟩ u0).setCell ⟨R, 1, none⟩ u1).setCell ⟨R, 2, none⟩ u2).cell? ⟨X, 2, none⟩ = some b ∧
    (((W.setCell ⟨R, 0, none⟩ u0).setCell ⟨R, 1, none⟩ u1).setCell ⟨R, 2, none⟩ u2).cell? ⟨X, 3, none⟩ = some c ∧ (((W.setCell ⟨R, 0, none⟩ u0).setCell ⟨R, 1, none⟩ u1).setCell ⟨R, 2, none⟩ u2).cell? ⟨X, 4, none⟩ = some d :=
  ⟨(keep_far3 h 0).trans hs.1, keep4s h hs.2⟩

set_option maxRecDepth 100000 in
set_option maxHeartbeats 4000000 in
theorem tTail_c (w : World) (n k : Int) (v : Value) (x : F) (h : IsF w v x) :
    Calls Try.prog 27 #[.int .i64 n, .int .i64 k, v] w (RetF w (tailF n k x)) := by
  have HX := h
  obtain ⟨va, vb, rfl, h1, h2⟩ := h
  obtain ⟨p, cp, rfl, _, _⟩ := h1.shape
  obtain ⟨q, cq, rfl, _, _⟩ := h2.shape
  obtain ⟨W0, hW, bx, br, hsz, hb0⟩ := start2 w #[.bool x.neg, .slice p x.num.length cp, .slice q x.den.length cq] #[.bool false, .slice none 0 0, .slice none 0 0] 30
  obtain ⟨c0, c1, c2⟩ := bx.cells3
  have H1 := Lib.hid (HX.after hb0)
  have HB0 := Lib.hid hb0
  have BX := Lib.hid bx
  have BR := Lib.hid br
  have mkS : Hid (∀ w', Below W0.heap.size W0 w' → w'.cell? ⟨w.heap.size, 0, none⟩ = some (.bool x.neg) ∧ w'.cell? ⟨w.heap.size, 1, none⟩ = some (.slice p x.num.length cp) ∧ w'.cell? ⟨w.heap.size, 2, none⟩ = some (.slice q x.den.length cq)) :=
    fun w' hb => ⟨keep_cell hb c0, keep_cell hb c1, keep_cell hb c2⟩
  clear HX bx br hb0 h1 h2 c0 c1 c2
  obtain ⟨r, hr⟩ : ∃ r, checkE x (trialsB n k (IntKind.i64.wrap (n + 1))) = r := ⟨_, rfl⟩
  have hrc := checkE_cases x (trialsB n k (IntKind.i64.wrap (n + 1)))
  rw [hr] at hrc
  have HRR := Lib.hid hr
  by_cases h0 : r = 0
  · subst h0
    obtain ⟨hrate, htr⟩ := checkE_zero hr
    obtain ⟨a, b, rfl, hab, hb0, hb1, ha', hb'⟩ := rate_fr hrate
    obtain ⟨t1, t2, t3, t4⟩ := trialsB_iff.1 htr
    obtain ⟨N, rfl⟩ : ∃ N : Nat, n = N := ⟨n.toNat, by omega⟩
    obtain ⟨K, rfl⟩ : ∃ K : Nat, k = K := ⟨k.toNat, by omega⟩
    have hsp : Hid (tailF (N : Int) (K : Int) (fr false a b) = made false (tl a (b - a) N K) (b ^ N)) := by
      show _ = _
      unfold tailF
      rw [if_pos hr, ha', hb']
      simp
    have hN : N ≤ 64 := by omega
    have hw1 : IntKind.i64.wrap ((N : Int) + 1) = (N : Int) + 1 := wrap_in (by omega) (by omega)
    rw [hw1] at t4
    have hK : K ≤ N + 1 := by omega
    have hK2 : K < 9223372036854775808 := by omega
    have HK9 := Lib.hid hK2
    have HW1 := Lib.hid hw1
    have HN := Lib.hid hN
    have HK := Lib.hid hK
    have HAB := Lib.hid hab
    have HB1 := Lib.hid hb1
    have HB2 := Lib.hid hb0
    clear hr hrc hrate htr ha' hb' t1 t2 t3 t4 hab hb1 hb0 hw1 hK2
    go_enter Try.func27, Try.ntmps27
    go_upto_region 1 with fail
    rw [← hW]
    clear hW
    go_region_held3 (fun w' => w'.cell? ⟨w.heap.size, 0, none⟩ = some (.bool (fr false a b).neg) ∧ w'.cell? ⟨w.heap.size, 1, none⟩ = some (.slice p (fr false a b).num.length cp) ∧ w'.cell? ⟨w.heap.size, 2, none⟩ = some (.slice q (fr false a b).den.length cq))
      (first | (refine mkS.out _ ?_; repeat (first | with_reducible exact hk2 | with_reducible exact Below.refl _ _ | with_reducible refine below_dr ?_)))
      (first
       | (go_at_call 45; refine (ttrials_c _ _ _ _).mono ?_; rintro e w' ⟨rfl, rfl⟩)
       | (go_at_call 44; refine (checked_c _ _ (fr false a b) _ ?_).mono ?_; exact H1.out.after (below_dr (Below.refl _ W0)); rw [HRR.out]; rintro e w2 ⟨rfl, hb2⟩; have hk2 := below_of_drew hb2))
    have HK2 := Lib.hid hk2
    have BX2 := Lib.hid (BX.out.after hk2)
    have BR2 := Lib.hid (BR.out.after hk2)
    have H2 := Lib.hid (H1.out.after hk2)
    obtain ⟨c0, c1, c2⟩ := (BX.out.after hk2).cells3
    clear hk2 hb2 BX BR H1 mkS
    go_wp2_with fail
    refine (spreadOf_t _ _ N a b H2.out HAB.out HB2.out HB1.out HN.out).mono ?_
    rintro e w3 ⟨u, rfl, hu, hb3⟩
    obtain ⟨vi, vj, g2, g9, g10, rfl, hi1, hi2, hpart⟩ := hu
    have hab' : a + (b - a) = b := by have := HAB.out; omega
    rw [hab'] at hi1
    have hac : Hid (a + (b - a) ≤ 1000) := by show _ ≤ _; rw [hab']; exact HB1.out
    obtain ⟨p1, cp1, rfl, _, _⟩ := hi1.shape
    obtain ⟨q1, cq1, rfl, _, _⟩ := hi2.shape
    obtain ⟨W4, hW4⟩ : ∃ W4, W4 = w3.alloc (.cells #[.int .i64 (N : Int), .bool false, .slice p1 (limbs (b ^ N)).length cp1, .slice q1 (limbs 1).length cq1, .func (.func 70) #[] #[.pointer (some ⟨g2, 0, none⟩), .pointer (some ⟨g9, 0, none⟩), .pointer (some ⟨g10, 0, none⟩)]] 93) := ⟨_, rfl⟩
    have hb4 : Below w3.heap.size w3 W4 := hW4 ▸ (Below.refl _ w3).alloc (Nat.le_refl _) _
    have bx4 : Box W4 w3.heap.size #[.int .i64 (N : Int), .bool false, .slice p1 (limbs (b ^ N)).length cp1, .slice q1 (limbs 1).length cq1, .func (.func 70) #[] #[.pointer (some ⟨g2, 0, none⟩), .pointer (some ⟨g9, 0, none⟩), .pointer (some ⟨g10, 0, none⟩)]] 93 := hW4 ▸ Box.new w3 _ _
    obtain ⟨s0, s1, s2, s3, s4⟩ := bx4.cells5
    have hb34 := hb3.trans (hb4.mono hb3.size)
    have HK4 := Lib.hid (HK2.out.trans (hb34.mono HK2.out.size))
    have BR4 := Lib.hid (BR2.out.after hb34)
    have HP4 := Lib.hid (hpart.after hb4)
    have HI4 := Lib.hid (show IsF W4 (.agg #[.bool false, .slice p1 (limbs (b ^ N)).length cp1, .slice q1 (limbs 1).length cq1]) (Wh (b ^ N)) from ⟨_, _, rfl, hi1.after hb4, hi2.after hb4⟩)
    have HSP4 := Lib.hid (show IsSp W4 (.agg #[.int .i64 (N : Int), .bool false, .slice p1 (limbs (b ^ N)).length cp1, .slice q1 (limbs 1).length cq1, .func (.func 70) #[] #[.pointer (some ⟨g2, 0, none⟩), .pointer (some ⟨g9, 0, none⟩), .pointer (some ⟨g10, 0, none⟩)]]) N a (b - a) from ⟨_, _, g2, g9, g10, rfl, by rw [hab']; exact hi1.after hb4, hi2.after hb4, hpart.after hb4⟩)
    have hne4 : w.heap.size + 1 ≠ w3.heap.size := by have := (BR2.out.after hb3).lt; omega
    have mkS : Hid (∀ w', Below W4.heap.size W4 w' → w'.cell? ⟨w3.heap.size, 0, none⟩ = some (.int .i64 (N : Int)) ∧ w'.cell? ⟨w3.heap.size, 1, none⟩ = some (.bool false) ∧ w'.cell? ⟨w3.heap.size, 2, none⟩ = some (.slice p1 (limbs (b ^ N)).length cp1) ∧ w'.cell? ⟨w3.heap.size, 3, none⟩ = some (.slice q1 (limbs 1).length cq1) ∧ w'.cell? ⟨w3.heap.size, 4, none⟩ = some (.func (.func 70) #[] #[.pointer (some ⟨g2, 0, none⟩), .pointer (some ⟨g9, 0, none⟩), .pointer (some ⟨g10, 0, none⟩)])) := fun w' hb => ⟨keep_cell hb s0, keep_cell hb s1, keep_cell hb s2, keep_cell hb s3, keep_cell hb s4⟩
    have le1 : Hid ((limbs (tl a (b - a) N K)).length ≤ 32) := Nat.le_trans (limbs_len_mono (tl_all_le a (b - a) N K)) (Nat.le_trans (pow_limbs hac.out HN.out) (by omega))
    have le2 : Hid ((limbs (b ^ N)).length ≤ 32) := Nat.le_trans (pow_limbs HB1.out HN.out) (by omega)
    have hdiv : Hid (opF divN (Wh (tl a (b - a) N K)) (Wh (b ^ N)) = tailF (N : Int) (K : Int) (fr false a b)) := by
      show _ = _
      rw [hsp.out]
      exact div_made le1.out le2.out (Nat.pow_pos HB2.out)
    obtain ⟨o, ho⟩ : ∃ o, tailF (N : Int) (K : Int) (fr false a b) = o := ⟨_, rfl⟩
    rw [ho] at hdiv
    have HO := Lib.hid ho
    clear hi1 hi2 hpart hb3 hb4 hb34 bx4 hsp ho hab' HK2 BX2 BR2 H2 c0 c1 c2
    go_upto_region 1 with fail
    rw [← hW4]
    clear hW4
    go_region_held3 (fun w' => w'.cell? ⟨w3.heap.size, 0, none⟩ = some (.int .i64 (N : Int)) ∧ w'.cell? ⟨w3.heap.size, 1, none⟩ = some (.bool false) ∧ w'.cell? ⟨w3.heap.size, 2, none⟩ = some (.slice p1 (limbs (b ^ N)).length cp1) ∧ w'.cell? ⟨w3.heap.size, 3, none⟩ = some (.slice q1 (limbs 1).length cq1) ∧ w'.cell? ⟨w3.heap.size, 4, none⟩ = some (.func (.func 70) #[] #[.pointer (some ⟨g2, 0, none⟩), .pointer (some ⟨g9, 0, none⟩), .pointer (some ⟨g10, 0, none⟩)]))
      (first | (refine mkS.out _ ?_; (repeat (first | with_reducible exact hk6 | with_reducible exact hk5 | with_reducible exact Below.refl _ _ | with_reducible refine below_dr ?_)); done) | (with_reducible refine keep5s hne4 ?_; with_reducible exact mkS.out _ hk6))
      (first
       | (go_at_call 48; refine (at_t _ _ N a (b - a) K ?_ HN.out hac.out HK9.out).mono ?_; exact HSP4.out.after (below_dr (Below.refl _ W4)); rintro e w5 ⟨v5, rfl, hv5, hb5⟩; have hk5 := below_of_drew hb5; have HV5 := Lib.hid hv5; obtain ⟨vx, vy, rfl, h3, h4⟩ := hv5; obtain ⟨p5, cp5, rfl, _, _⟩ := h3.shape; obtain ⟨q5, cq5, rfl, _, _⟩ := h4.shape; clear h3 h4 hb5)
       | (go_at_call 47; refine (Div_c _ _ _ (Wh (tl a (b - a) N K)) (Wh (b ^ N)) HV5.out (HI4.out.after hk5)).mono ?_; rw [hdiv.out]; rintro e w6 ⟨v6, rfl, hv6, hb6⟩; have hk6 := hk5.trans (hb6.mono hk5.size); obtain ⟨vx, vy, rfl, h5, h6⟩ := hv6; obtain ⟨p6, cp6, rfl, _, _⟩ := h5.shape; obtain ⟨q6, cq6, rfl, _, _⟩ := h6.shape; have HS5 := Lib.hid h5; have HS6 := Lib.hid h6; have BR6 := BR4.out.after hk6; obtain ⟨z0, z1, z2⟩ := BR6.cells3; have f0 := BR6.frozen 0; have f1 := BR6.frozen 1; have f2 := BR6.frozen 2; clear h5 h6 hb6))
    have HK6 := Lib.hid (HK4.out.trans (hk6.mono HK4.out.size))
    have HR6 := Lib.hid BR6
    clear hk6 hk5 BR6 mkS s0 s1 s2 s3 s4 hne4
    go_wp2_with fail
    refine bodyPost_ret (v := .tuple #[.agg #[.bool o.1.neg, .slice p6 o.1.num.length cp6, .slice q6 o.1.den.length cq6], .int .i64 o.2]) (by simp [results, Try.results27, go_sem, z0, z1, z2]) rfl ?_
    rw [HO.out]
    exact ⟨_, rfl, IsF.result HR6.out (fun _ h => by cases h) (fun _ h => by cases h) HS5.out HS6.out, (((HB0.out.trans (HK6.out.mono HB0.out.size)).setCell (p := ⟨w.heap.size + 1, 0, none⟩) (by simp) _).setCell (p := ⟨w.heap.size + 1, 1, none⟩) (by simp) _).setCell (p := ⟨w.heap.size + 1, 2, none⟩) (by simp) _⟩
  · have hsp : Hid (tailF n k x = (F0, r)) := by
      show _ = _
      unfold tailF
      rw [hr, if_neg h0]
    have hrp : 0 < r := by omega
    have hrq : r ≤ 2 := by omega
    clear hr hrc h0
    go_enter Try.func27, Try.ntmps27
    go_upto_region 1 with fail
    rw [← hW]
    clear hW
    go_region_held3 (fun w' => w'.cell? ⟨w.heap.size, 0, none⟩ = some (.bool x.neg) ∧ w'.cell? ⟨w.heap.size, 1, none⟩ = some (.slice p x.num.length cp) ∧ w'.cell? ⟨w.heap.size, 2, none⟩ = some (.slice q x.den.length cq))
      (first | (refine mkS.out _ ?_; repeat (first | with_reducible exact hk2 | with_reducible exact Below.refl _ _ | with_reducible refine below_dr ?_)))
      (first
       | (go_at_call 45; refine (ttrials_c _ _ _ _).mono ?_; rintro e w' ⟨rfl, rfl⟩)
       | (go_at_call 44; refine (checked_c _ _ x _ ?_).mono ?_; exact H1.out.after (below_dr (Below.refl _ W0)); rw [HRR.out]; rintro e w2 ⟨rfl, hb2⟩; have hk2 := below_of_drew hb2))
    have HK2 := Lib.hid hk2
    have BR2 := BR.out.after hk2
    obtain ⟨z0, z1, z2⟩ := BR2.cells3
    have f0 := BR2.frozen 0
    have f1 := BR2.frozen 1
    have f2 := BR2.frozen 2
    clear hk2 hb2 BX BR H1 mkS BR2
    go_wp2_with fail
    refine bodyPost_ret (v := .tuple #[.agg #[.bool false, .slice none 0 0, .slice none 0 0], .int .i64 r]) (by simp [results, Try.results27, go_sem, z0, z1, z2]) rfl ?_
    rw [hsp.out]
    exact ⟨_, rfl, IsF.zero _, (((HB0.out.trans (HK2.out.mono HB0.out.size)).setCell (p := ⟨w.heap.size + 1, 0, none⟩) (by simp) _).setCell (p := ⟨w.heap.size + 1, 1, none⟩) (by simp) _).setCell (p := ⟨w.heap.size + 1, 2, none⟩) (by simp) _⟩
end Go.Proofs.Ytjjefdkadgkhfaa

namespace Go.Proofs.Ytjjefdkadgkhfaa
open Go.RowKit

theorem made_big {m : Nat} (h : 32 < (limbs m).length) : made false m 1 = (F0, 3) := by
  unfold made
  rw [Nat.gcd_one_right, Nat.div_one, Nat.div_one, if_pos (.inl h)]
theorem mul_big {a b : Nat} (ha : (limbs a).length ≤ 32) (hb : (limbs b).length ≤ 32) (h : 32 < (limbs (a * b)).length) : opF mulN (Wh a) (Wh b) = (F0, 3) := by
  unfold Wh
  rw [opF_fr (ok_wh ha) (ok_wh hb)]
  exact made_big h
theorem cmp_wh {a b : Nat} (ha : (limbs a).length ≤ 32) (hb : (limbs b).length ≤ 32) : 0 < (cmpF (Wh a) (Wh b)).1 ↔ b < a := by
  rw [cmpF_yes ⟨valid_wh ha, valid_wh hb⟩]
  have e1 : val (Wh a).num = a := val_limbs a
  have e2 : val (Wh a).den = 1 := val_limbs 1
  have e3 : val (Wh b).num = b := val_limbs b
  have e4 : val (Wh b).den = 1 := val_limbs 1
  rw [e1, e2, e3, e4]
  show 0 < ordN false a 1 false b 1 ↔ b < a
  unfold ordN
  rw [if_pos rfl, if_neg (by simp), Nat.mul_one, Nat.mul_one]
  by_cases h1 : a < b
  · rw [if_pos h1]; constructor
    · intro h; omega
    · intro h; omega
  · rw [if_neg h1]
    by_cases h2 : a = b
    · rw [if_pos h2]; constructor
      · intro h; omega
      · intro h; omega
    · rw [if_neg h2]; constructor
      · intro _; omega
      · intro _; omega
/-- A quotient of a part and all, held against a bound. -/
theorem quot_cmp {t A x y : Nat} (ht : (limbs t).length ≤ 32) (hA : (limbs A).length ≤ 32) (hA0 : 0 < A) (hok : Ok false x y) :
    ∃ q, opF divN (Wh t) (Wh A) = (q, 0) ∧ ((0 < (cmpF q (fr false x y)).1) ↔ A * x < t * y) := by
  have hg : 0 < Nat.gcd t A := Nat.gcd_pos_of_pos_right _ hA0
  obtain ⟨t', ht'⟩ := Nat.gcd_dvd_left t A
  obtain ⟨A', hA'⟩ := Nat.gcd_dvd_right t A
  have e1 : t / Nat.gcd t A = t' := Nat.div_eq_of_eq_mul_right hg ht'
  have e2 : A / Nat.gcd t A = A' := Nat.div_eq_of_eq_mul_right hg hA'
  have l1 : (limbs t').length ≤ 32 := by rw [← e1]; exact Nat.le_trans (limbs_len_mono (Nat.div_le_self _ _)) ht
  have l2 : (limbs A').length ≤ 32 := by rw [← e2]; exact Nat.le_trans (limbs_len_mono (Nat.div_le_self _ _)) hA
  have hA'0 : 0 < A' := by
    rcases Nat.eq_zero_or_pos A' with h | h
    · rw [h, Nat.mul_zero] at hA'; omega
    · exact h
  have hgcd : Nat.gcd t' A' = 1 := by rw [← e1, ← e2]; exact Nat.gcd_div_gcd_div_gcd_of_pos_right hA0
  have okq : Ok false t' A' := ⟨l1, l2, hA'0, hgcd, fun _ => rfl⟩
  refine ⟨fr false t' A', ?_, ?_⟩
  · rw [div_made ht hA hA0]
    unfold made
    rw [e1, e2, if_neg (by omega)]
    rfl
  · rw [cmpF_yes ⟨validF_fr.2 okq, validF_fr.2 hok⟩]
    simp only [fr, val_limbs]
    have key : (A * x < t * y) ↔ (x * A' < t' * y) := by
      have m1 : A * x = Nat.gcd t A * (x * A') := by
        rw [show A * x = (Nat.gcd t A * A') * x from by rw [← hA']]
        simp only [Nat.mul_assoc, Nat.mul_comm]
      have m2 : t * y = Nat.gcd t A * (t' * y) := by
        rw [show t * y = (Nat.gcd t A * t') * y from by rw [← ht'], Nat.mul_assoc]
      rw [m1, m2]
      exact Nat.mul_lt_mul_left hg
    rw [key]
    unfold ordN
    rw [if_pos rfl, if_neg (by simp)]
    by_cases h1 : t' * y < x * A'
    · rw [if_pos h1]; constructor
      · intro h; omega
      · intro h; omega
    · rw [if_neg h1]
      by_cases h2 : t' * y = x * A'
      · rw [if_pos h2]; constructor
        · intro h; omega
        · intro h; omega
      · rw [if_neg h2]; constructor
        · intro _; omega
        · intro _; omega

set_option maxRecDepth 100000 in
set_option maxHeartbeats 2000000 in
theorem above1_t (w : World) (v va vb : Value) (D S N B t x y A n c2 c9 c10 : Nat) (h : IsF w v (Wh t)) (hD : VarF w D (Wh y)) (hS : Box w S (spCells n va vb c2 c9 c10) 93) (hs1 : Sl w va (limbs A)) (hs2 : Sl w vb (limbs 1))
    (hN : VarF w N (Wh x)) (hB : VarF w B (fr false x y)) (hok : Ok false x y) (ht : (limbs t).length ≤ 32) (hA : (limbs A).length ≤ 32) (hA0 : 0 < A) :
    Calls Try.prog 86 #[v, .pointer (some ⟨D, 0, none⟩), .pointer (some ⟨S, 0, none⟩), .pointer (some ⟨N, 0, none⟩), .pointer (some ⟨B, 0, none⟩)] w (RetC w (A * x < t * y)) := by
  have HX := h
  obtain ⟨ua, ub, rfl, h1, h2⟩ := h
  obtain ⟨p0, cp0, rfl, _, _⟩ := h1.shape
  obtain ⟨q0, cq0, rfl, _, _⟩ := h2.shape
  obtain ⟨p1, cp1, rfl, _, _⟩ := hs1.shape
  obtain ⟨q1, cq1, rfl, _, _⟩ := hs2.shape
  obtain ⟨W0, hW, bx, hsz, hb0⟩ : ∃ W0, W0 = w.alloc (.cells #[.bool (Wh t).neg, .slice p0 (Wh t).num.length cp0, .slice q0 (Wh t).den.length cq0] 30) ∧ Box W0 w.heap.size #[.bool (Wh t).neg, .slice p0 (Wh t).num.length cp0, .slice q0 (Wh t).den.length cq0] 30 ∧ W0.heap.size = w.heap.size + 1 ∧ Below w.heap.size w W0 :=
    ⟨_, rfl, Box.new w _ _, by simp, held_alloc (Below.refl _ w)⟩
  have HI := Lib.hid (HX.after hb0)
  have BX := Lib.hid bx
  have BS : Hid (Box W0 S #[.int .i64 (n : Int), .bool false, .slice p1 (limbs A).length cp1, .slice q1 (limbs 1).length cq1, .func (.func 70) #[] #[.pointer (some ⟨c2, 0, none⟩), .pointer (some ⟨c9, 0, none⟩), .pointer (some ⟨c10, 0, none⟩)]] 93) := hS.after hb0
  have HSI := Lib.hid (show IsF W0 (.agg #[.bool false, .slice p1 (limbs A).length cp1, .slice q1 (limbs 1).length cq1]) (Wh A) from ⟨_, _, rfl, hs1.after hb0, hs2.after hb0⟩)
  obtain ⟨d1, d2, bD, sD1, sD2⟩ := hD.after hb0
  obtain ⟨n1, n2, bN, sN1, sN2⟩ := hN.after hb0
  obtain ⟨b1, b2, bB, sB1, sB2⟩ := hB.after hb0
  have BD := Lib.hid bD
  have BN := Lib.hid bN
  have BB := Lib.hid bB
  have HDI := Lib.hid (show IsF W0 (.agg #[.bool (Wh y).neg, d1, d2]) (Wh y) from ⟨_, _, rfl, sD1, sD2⟩)
  have HNI := Lib.hid (show IsF W0 (.agg #[.bool (Wh x).neg, n1, n2]) (Wh x) from ⟨_, _, rfl, sN1, sN2⟩)
  have HBI := Lib.hid (show IsF W0 (.agg #[.bool (fr false x y).neg, b1, b2]) (fr false x y) from ⟨_, _, rfl, sB1, sB2⟩)
  have HB0 := Lib.hid hb0
  have hx32 : (limbs x).length ≤ 32 := hok.n32
  have hy32 : (limbs y).length ≤ 32 := hok.d32
  obtain ⟨i0, i1, i2⟩ := bx.cells3
  obtain ⟨j0, j1, j2⟩ := bD.cells3
  -- the two products
  obtain ⟨r1, hr1⟩ : ∃ r, opF mulN (Wh t) (Wh y) = r := ⟨_, rfl⟩
  obtain ⟨r2, hr2⟩ : ∃ r, opF mulN (Wh A) (Wh x) = r := ⟨_, rfl⟩
  have HR1 := Lib.hid hr1
  have HR2 := Lib.hid hr2
  clear HX h1 h2 hb0 bx bD bN bB sD1 sD2 sN1 sN2 sB1 sB2 hS hs1 hs2 hD hN hB
  have hcase : Hid ((r1 = (Wh (t * y), 0) ∧ r2 = (Wh (A * x), 0) ∧ (limbs (t * y)).length ≤ 32 ∧ (limbs (A * x)).length ≤ 32) ∨ (r1.2 = 0 ∧ r2.2 = 3) ∨ (r1.2 = 3)) := by
    by_cases g1 : (limbs (t * y)).length ≤ 32
    · have e1 := mul_wh ht hy32 g1
      rw [hr1] at e1
      by_cases g2 : (limbs (A * x)).length ≤ 32
      · have e2 := mul_wh hA hx32 g2
        rw [hr2] at e2
        exact .inl ⟨e1, e2, g1, g2⟩
      · have e2 := mul_big hA hx32 (by omega)
        rw [hr2] at e2
        exact .inr (.inl ⟨by rw [e1], by rw [e2]⟩)
    · have e1 := mul_big ht hy32 (by omega)
      rw [hr1] at e1
      exact .inr (.inr (by rw [e1]))
  clear hr1 hr2
  go_enter Try.func86, Try.ntmps86
  go_upto_region 1 with fail
  rw [← hW]
  clear hW
  go_wp2_with fail
  refine (Mul_c _ _ _ (Wh t) (Wh y) HI.out HDI.out).mono ?_
  rw [HR1.out]
  rintro e w1 ⟨v1, rfl, hv1, hb1⟩
  obtain ⟨ra, rb, rfl, h3, h4⟩ := hv1
  obtain ⟨p2, cp2, rfl, _, _⟩ := h3.shape
  obtain ⟨q2, cq2, rfl, _, _⟩ := h4.shape
  obtain ⟨W2, hW2⟩ : ∃ W2, W2 = w1.alloc (.cells #[.bool r1.1.neg, .slice p2 r1.1.num.length cp2, .slice q2 r1.1.den.length cq2] 30) := ⟨_, rfl⟩
  have hb2 : Below w1.heap.size w1 W2 := hW2 ▸ held_alloc (Below.refl _ w1)
  have bA : Box W2 w1.heap.size #[.bool r1.1.neg, .slice p2 r1.1.num.length cp2, .slice q2 r1.1.den.length cq2] 30 := hW2 ▸ Box.new w1 _ _
  have hb12 := hb1.trans (hb2.mono hb1.size)
  have HA := Lib.hid (show IsF W2 (.agg #[.bool r1.1.neg, .slice p2 r1.1.num.length cp2, .slice q2 r1.1.den.length cq2]) r1.1 from ⟨_, _, rfl, h3.after hb2, h4.after hb2⟩)
  have BA := Lib.hid bA
  have HB2 := Lib.hid hb12
  obtain ⟨s0, s1, s2, s3, s4⟩ := (BS.out.after hb12).cells5
  obtain ⟨k0, k1, k2⟩ := (BN.out.after hb12).cells3
  clear h3 h4 hb1 hb2 hb12 bA i0 i1 i2 j0 j1 j2
  go_upto_region 2 with fail
  rw [← hW2]
  clear hW2
  go_wp2_with fail
  refine (Mul_c _ _ _ (Wh A) (Wh x) (HSI.out.after HB2.out) (HNI.out.after HB2.out)).mono ?_
  rw [HR2.out]
  rintro e w3 ⟨v3, rfl, hv3, hb3⟩
  obtain ⟨ra, rb, rfl, h3, h4⟩ := hv3
  obtain ⟨p3, cp3, rfl, _, _⟩ := h3.shape
  obtain ⟨q3, cq3, rfl, _, _⟩ := h4.shape
  obtain ⟨W4, hW4⟩ : ∃ W4, W4 = w3.alloc (.cells #[.bool r2.1.neg, .slice p3 r2.1.num.length cp3, .slice q3 r2.1.den.length cq3] 30) := ⟨_, rfl⟩
  have hb4 : Below w3.heap.size w3 W4 := hW4 ▸ held_alloc (Below.refl _ w3)
  have bB4 : Box W4 w3.heap.size #[.bool r2.1.neg, .slice p3 r2.1.num.length cp3, .slice q3 r2.1.den.length cq3] 30 := hW4 ▸ Box.new w3 _ _
  have hb34 := hb3.trans (hb4.mono hb3.size)
  have HBB := Lib.hid (show IsF W4 (.agg #[.bool r2.1.neg, .slice p3 r2.1.num.length cp3, .slice q3 r2.1.den.length cq3]) r2.1 from ⟨_, _, rfl, h3.after hb4, h4.after hb4⟩)
  have HA4 := Lib.hid (HA.out.after hb34)
  have HB4 := Lib.hid (HB2.out.trans (hb34.mono HB2.out.size))
  obtain ⟨k0, k1, k2⟩ := bB4.cells3
  obtain ⟨m0, m1, m2⟩ := (BA.out.after hb34).cells3
  obtain ⟨s0, s1, s2, s3, s4⟩ := (BS.out.after HB4.out).cells5
  obtain ⟨i0, i1, i2⟩ := (BX.out.after HB4.out).cells3
  have HFR := Lib.hid (HB0.out.trans (HB4.out.mono HB0.out.size))
  clear h3 h4 hb3 hb4 hb34 bB4
  go_upto_region 3 with fail
  rw [← hW4]
  clear hW4
  rcases hcase.out with ⟨rfl, rfl, g1, g2⟩ | hno
  · have hiff := Lib.hid (cmp_wh g1 g2)
    obtain ⟨z, hz⟩ : ∃ z, (cmpF (Wh (t * y)) (Wh (A * x))).1 = z := ⟨_, rfl⟩
    rw [hz] at hiff
    have HZ := Lib.hid hz
    clear hz
    go_wp2_with fail
    refine (tsign_c _ _ _ (Wh (t * y)) (Wh (A * x)) HA4.out HBB.out).mono ?_
    rw [HZ.out]
    rintro e w5 ⟨rfl, hb5⟩
    have HF5 := Lib.hid (HFR.out.trans (hb5.mono HFR.out.size))
    clear hb5
    go_wp2_with fail
    go_ret
    exact ⟨decide (0 < z), rfl, by rw [decide_eq_true_iff]; exact hiff.out, HF5.out⟩
  · obtain ⟨qq, hq, hqc⟩ := quot_cmp ht hA hA0 hok
    obtain ⟨z, hz⟩ : ∃ z, (cmpF qq (fr false x y)).1 = z := ⟨_, rfl⟩
    rw [hz] at hqc
    have HZ := Lib.hid hz
    have HQ := Lib.hid hq
    have hiff := Lib.hid hqc
    have HIB := Lib.hid (HBI.out.after HB4.out)
    have HI4 := Lib.hid (HI.out.after HB4.out)
    have HS4 := Lib.hid (HSI.out.after HB4.out)
    have BBB := Lib.hid (BB.out.after HB4.out)
    clear hz hq hqc HBB HA4 HBI HI HSI HNI HDI BX BS BD BN BB HB2 HA BA k0 k1 k2 m0 m1 m2 hcase HR1 HR2
    rcases hno with ⟨e1, e2⟩ | e1
    all_goals
      go_upto_region 5 with fail
      go_wp2_with fail
      refine (Div_c _ _ _ (Wh t) (Wh A) HI4.out HS4.out).mono ?_
      rw [HQ.out]
      rintro e w5 ⟨v5, rfl, hv5, hb5⟩
      obtain ⟨ra, rb, rfl, h5, h6⟩ := hv5
      obtain ⟨p5, cp5, rfl, _, _⟩ := h5.shape
      obtain ⟨q5, cq5, rfl, _, _⟩ := h6.shape
      obtain ⟨W6, hW6⟩ : ∃ W6, W6 = w5.alloc (.cells #[.bool qq.neg, .slice p5 qq.num.length cp5, .slice q5 qq.den.length cq5] 30) := ⟨_, rfl⟩
      have hb6 : Below w5.heap.size w5 W6 := hW6 ▸ held_alloc (Below.refl _ w5)
      have b6 : Box W6 w5.heap.size #[.bool qq.neg, .slice p5 qq.num.length cp5, .slice q5 qq.den.length cq5] 30 := hW6 ▸ Box.new w5 _ _
      have hb56 := hb5.trans (hb6.mono hb5.size)
      have HQ6 := Lib.hid (show IsF W6 (.agg #[.bool qq.neg, .slice p5 qq.num.length cp5, .slice q5 qq.den.length cq5]) qq from ⟨_, _, rfl, h5.after hb6, h6.after hb6⟩)
      have HB6 := Lib.hid (HIB.out.after hb56)
      have HF6 := Lib.hid (HFR.out.trans (hb56.mono HFR.out.size))
      obtain ⟨k0, k1, k2⟩ := b6.cells3
      obtain ⟨m0, m1, m2⟩ := (BBB.out.after hb56).cells3
      clear h5 h6 hb5 hb6 hb56 b6 s0 s1 s2 s3 s4 i0 i1 i2
      go_upto_region 6 with fail
      rw [← hW6]
      clear hW6
      go_wp2_with fail
      refine (tsign_c _ _ _ qq (fr false x y) HQ6.out HB6.out).mono ?_
      rw [HZ.out]
      rintro e w7 ⟨rfl, hb7⟩
      have HF7 := Lib.hid (HF6.out.trans (hb7.mono HF6.out.size))
      clear hb7
      go_wp2_with fail
      go_ret
      exact ⟨decide (0 < z), rfl, by rw [decide_eq_true_iff]; exact hiff.out, HF7.out⟩
end Go.Proofs.Ytjjefdkadgkhfaa
