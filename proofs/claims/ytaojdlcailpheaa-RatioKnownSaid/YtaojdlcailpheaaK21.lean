/- Walks of package ratio: simplest. -/
import Derived.Test.YtaojdlcailpheaaK20
import Derived.StillTailTactics
set_option linter.unusedVariables false
namespace Go.Proofs.Ytaojdlcailpheaa
open Go.RowKit Go.Shelf
attribute [local go_sem] Oper.semAt_some wide_fn

theorem RowN.fx {S : Nat → Prop} {w W : World} {g : Nat} {xs : List Nat} (h : RowN w g xs) (hf : Fx S w W) (hg : ¬ S g) (hr : ∀ g, S g → ¬ Tag32 w g) : RowN W g xs := by
  intro i x hx
  obtain ⟨v, h1, h2⟩ := h i x hx
  exact ⟨v, hf.cell h1 hg, h2.fx hf hr⟩
/-- What a variable has collected. -/
theorem OutN.got {W1 W : World} {O : Nat} {l : List Nat} (h : OutN W1 O l.length l W) (h0 : 0 < l.length) : ∃ g c, Box W O #[.slice (some ⟨g, 0, none⟩) l.length c] 105 ∧ RowN W g l ∧ l.length ≤ c ∧ c ≤ 9223372036854775807 ∧ W1.heap.size ≤ g ∧ g < W.heap.size := by
  obtain ⟨p, n, c, es, h1, h2, h3, h4⟩ := h
  have h2' := h2
  rcases h2.2 with ⟨_, h5⟩ | ⟨g, cap, cur, e, h6, h7, h8, h9, _⟩
  · omega
  · injection e with e1 e2 e3
    subst e1; subst e2; subst e3
    exact ⟨g, c, h1, RowN.of_own h2' h3, h8, by simpa [maxLen] using h9, h6, (Array.getElem?_eq_some_iff.1 h7).1⟩
/-- Variable C holds the chain ch. -/
def VarC (w : World) (C : Nat) (ch : Ch) : Prop := ∃ v0 v1 v2 v3, Box w C #[v0, v1, v2, v3] 85 ∧ IsC w (.agg #[v0, v1, v2, v3]) ch
theorem VarC.after {w w' : World} {C : Nat} {ch : Ch} (h : VarC w C ch) (hb : Below w.heap.size w w') : VarC w' C ch := by
  obtain ⟨v0, v1, v2, v3, h1, h2⟩ := h
  exact ⟨v0, v1, v2, v3, h1.after hb, h2.after hb⟩
theorem VarC.lt {w : World} {C : Nat} {ch : Ch} (h : VarC w C ch) : C < w.heap.size := by
  obtain ⟨_, _, _, _, h1, _⟩ := h
  exact h1.lt
theorem VarC.open {w : World} {C : Nat} {ch : Ch} (h : VarC w C ch) : ∃ (p0 p1 p2 p3 : Option Addr) (c0 c1 c2 c3 : Nat), Box w C #[.slice p0 (limbs ch.num).length c0, .slice p1 (limbs ch.den).length c1, .slice p2 (limbs ch.on).length c2, .slice p3 (limbs ch.od).length c3] 85 ∧
    IsC w (.agg #[.slice p0 (limbs ch.num).length c0, .slice p1 (limbs ch.den).length c1, .slice p2 (limbs ch.on).length c2, .slice p3 (limbs ch.od).length c3]) ch := by
  obtain ⟨v0, v1, v2, v3, h1, h2⟩ := h
  have h2' := h2
  obtain ⟨p0, p1, p2, p3, c0, c1, c2, c3, e, _, _, _, _⟩ := h2.open
  have e' : #[v0, v1, v2, v3] = #[.slice p0 (limbs ch.num).length c0, .slice p1 (limbs ch.den).length c1, .slice p2 (limbs ch.on).length c2, .slice p3 (limbs ch.od).length c3] := by injection e
  rw [e'] at h1
  rw [e] at h2'
  exact ⟨p0, p1, p2, p3, c0, c1, c2, c3, h1, h2'⟩
theorem keep4o {W : World} {R X : Nat} {u0 u1 u2 u3 a : Value} (h : R ≠ X) (hs : W.cell? ⟨X, 0, none⟩ = some a) :
    ((((W.setCell ⟨R, 0, none⟩ u0).setCell ⟨R, 1, none⟩ u1).setCell ⟨R, 2, none⟩ u2).setCell ⟨R, 3, none⟩ u3).cell? ⟨X, 0, none⟩ = some a := by
  rw [World.cell?_setCell_other _ _ _ _ (fun e => h (by injection e)), World.cell?_setCell_other _ _ _ _ (fun e => h (by injection e)), World.cell?_setCell_other _ _ _ _ (fun e => h (by injection e)), World.cell?_setCell_other _ _ _ _ (fun e => h (by injection e))]
  exact hs
/-- A store of a chain into its variable. -/
theorem VarC.store {w : World} {C : Nat} {ch ch' : Ch} {p0 p1 p2 p3 : Option Addr} {n0 n1 n2 n3 c0 c1 c2 c3 : Nat} (h : VarC w C ch) (k : IsC w (.agg #[.slice p0 n0 c0, .slice p1 n1 c1, .slice p2 n2 c2, .slice p3 n3 c3]) ch') :
    VarC ((((w.setCell ⟨C, 0, none⟩ (.slice p0 n0 c0)).setCell ⟨C, 1, none⟩ (.slice p1 n1 c1)).setCell ⟨C, 2, none⟩ (.slice p2 n2 c2)).setCell ⟨C, 3, none⟩ (.slice p3 n3 c3)) C ch' ∧
    w.grownBy ((((w.setCell ⟨C, 0, none⟩ (.slice p0 n0 c0)).setCell ⟨C, 1, none⟩ (.slice p1 n1 c1)).setCell ⟨C, 2, none⟩ (.slice p2 n2 c2)).setCell ⟨C, 3, none⟩ (.slice p3 n3 c3)) (some C) := by
  obtain ⟨a0, a1, a2, a3, k0, k1, k2, k3, hb, _⟩ := h.open
  have z : ∀ (p : Option Addr) (n c : Nat) (x : Int), Value.slice p n c ≠ .int .u32 x := fun _ _ _ _ e => by cases e
  obtain ⟨v0, v1, v2, v3, e, s0, s1, s2, s3⟩ := k
  have e' : #[Value.slice p0 n0 c0, .slice p1 n1 c1, .slice p2 n2 c2, .slice p3 n3 c3] = #[v0, v1, v2, v3] := by injection e
  have e2 := congrArg Array.toList e'
  simp only [List.cons.injEq, and_true] at e2
  obtain ⟨rfl, rfl, rfl, rfl⟩ := e2
  have g : ∀ {v l}, Sl w v l → Sl (set4 w C (.slice p0 n0 c0) (.slice p1 n1 c1) (.slice p2 n2 c2) (.slice p3 n3 c3)) v l := fun hs => set4_sl hb (z _ _ _) (z _ _ _) (z _ _ _) (z _ _ _) (z _ _ _) (z _ _ _) (z _ _ _) hs
  refine ⟨⟨_, _, _, _, set4_box hb, ⟨_, _, _, _, rfl, g s0, g s1, g s2, g s3⟩⟩, ?_⟩
  exact grown_tr (grown_set3 w C _ _ _) (grown_set _ C 3 _)
/-- A row that was there is there behind a range over parts. -/
theorem RowN.over {W1 W : World} {O k g : Nat} {l xs : List Nat} (h : RowN W1 g xs) (k1 : OutN W1 O k l W) (hne : g ≠ O) (ho : ∀ g, some O = some g → ¬ Tag32 W1 g) : RowN W g xs := by
  obtain ⟨_, _, _, _, _, _, _, hg⟩ := k1
  exact h.grown hg (fun e => hne (by injection e)) ho

theorem cf_len2 : ∀ (k b a : Nat), b < 2 ^ k → (cf a b).length ≤ 2 * k
  | 0, b, a, h => by
    have : b = 0 := by simpa using h
    subst this
    rw [cf]; simp
  | k + 1, b, a, h => by
    rcases Nat.eq_zero_or_pos b with h0 | h0
    · subst h0; rw [cf]; simp
    · by_cases h1 : a % b = 0
      · rw [cf_last h0 h1]; simp; omega
      · rw [cf_more h0 h1, List.length_cons]
        have hlt := Nat.mod_lt a h0
        by_cases h2 : b % (a % b) = 0
        · rw [cf_last (by omega) h2]; simp; omega
        · rw [cf_more (by omega) h2, List.length_cons]
          have h3 := Nat.mod_lt b (show 0 < a % b by omega)
          have h4 := Nat.div_add_mod b (a % b)
          have h5 : 1 ≤ b / (a % b) := (Nat.one_le_div_iff (by omega)).2 (by omega)
          have h6 : (a % b) * 1 ≤ (a % b) * (b / (a % b)) := Nat.mul_le_mul_left _ h5
          have := cf_len2 k (b % (a % b)) (a % b) (by rw [Nat.pow_succ] at h; omega)
          omega
theorem cf_len (a b : Nat) (h : (limbs b).length ≤ 32) : (cf a b).length < 1000000000000 := by
  have h1 := Nat.lt_of_lt_of_le (lt_limbs b) (Nat.pow_le_pow_right (n := 4294967296) (by omega) h)
  rw [two_pow] at h1
  have := cf_len2 (32 * 32) b a h1
  omega
/-- What a round's assignment leaves: the part in a slot. -/
def AsP (L : List Nat) (F : Nat → Nat → Option Addr → Nat → Act) (r : Nat) (args : Array Value) (a1 : Act) (W w1 : World) : Prop :=
  ∃ (x : Nat) (p : Option Addr) (c : Nat), (L[r]? = some x ∧ Sl W (.slice p (limbs x).length c) (limbs x)) ∧ w1 = W ∧ a1 = F r x p c
theorem AsP.mk {L : List Nat} {F : Nat → Nat → Option Addr → Nat → Act} {r x : Nat} {p : Option Addr} {c : Nat} {args : Array Value} {W : World} (h : L[r]? = some x ∧ Sl W (.slice p (limbs x).length c) (limbs x)) : AsP L F r args (F r x p c) W W := ⟨x, p, c, h, rfl, rfl⟩

/-- The end of simplest: both marks of the ranges are taken in. -/
theorem simp_end {w W : World} {D1 D2 : Nat} {x : F} {tmps : Array Value} {v0 v1 v2 : Value} (hb : Below w.heap.size w W) (hr : IsF W (.agg #[v0, v1, v2]) x) (hc : Box W (w.heap.size + 2) #[v0, v1, v2] 25) (h1 : W.heap[D1]? = some (.deferred (some []))) (h2 : W.heap[D2]? = some (.deferred (some [])))
    (d1 : w.heap.size ≤ D1) (d2 : D1 < D2) (d3 : w.heap.size + 2 < D1) (ht : tmps[4]? = some (.pointer (some ⟨w.heap.size + 2, 0, none⟩)) := by rfl) :
    bodyPostM Fence.wide 6 Try.prog Try.f79 (RetF1 w x) Exit.ret ⟨tmps, [{ target := Target.collected D2, args := #[] }, { target := Target.collected D1, args := #[] }]⟩ W := by
  have g2 : (W.putObj D2 (.deferred none)).heap[D1]? = some (.deferred (some [])) := (World.putObj_heap_other (by omega)).trans h1
  have n2 : ∀ g, some D2 = some g → ¬ Tag32 W g := Soft.noTag (.inr ⟨_, h2⟩)
  have n1 : ∀ g, some D1 = some g → ¬ Tag32 (W.putObj D2 (.deferred none)) g := Soft.noTag (.inr ⟨_, g2⟩)
  have w2 := hb.grown (putObj_grown2 W D2 (.deferred none)) hb.size (fun g e => by injection e with e; omega)
  have w1 := w2.grown (putObj_grown2 (W.putObj D2 (.deferred none)) D1 (.deferred none)) w2.size (fun g e => by injection e with e; omega)
  have r1 := (hr.grown (putObj_grown2 W D2 (.deferred none)) n2).grown (putObj_grown2 (W.putObj D2 (.deferred none)) D1 (.deferred none)) n1
  have c1 := (hc.grown' (putObj_grown2 W D2 (.deferred none)) (by intro e; injection e with e; omega)).grown' (putObj_grown2 (W.putObj D2 (.deferred none)) D1 (.deferred none)) (by intro e; injection e with e; omega)
  refine ⟨by simp, .inl ⟨_, _, rfl, run_takeDeferred h2, by simp, .inl ⟨_, _, rfl, run_takeDeferred g2, ?_⟩⟩⟩
  obtain ⟨e0, e1, e2⟩ := c1.cells3
  refine ⟨.agg #[v0, v1, v2], ?_, ⟨_, rfl, r1, w1⟩⟩
  have ht' : tmps[4]? = some (.pointer (some ⟨w.heap.size + 2, 0, none⟩)) := ht
  simp [results, Try.results79, go_sem, ht', e0, e1, e2]

set_option maxRecDepth 100000 in
set_option maxHeartbeats 8000000 in
theorem simplest_c (w : World) (v u : Value) (s t : Bool) (a b c d : Nat) (h : IsF w v (fr s a b)) (k : IsF w u (fr t c d)) (ha : 0 < a) (hb : 0 < b) (hc : 0 < c) (hd : 0 < d)
    (la : (limbs a).length ≤ 32) (lb : (limbs b).length ≤ 32) (lc : (limbs c).length ≤ 32) (ld : (limbs d).length ≤ 32) :
    Calls Try.prog 79 #[v, u] w (RetF1 w (fr false (simpG Ch.begun (cf a b) (cf c d)).num (simpG Ch.begun (cf a b) (cf c d)).den)) := by
  obtain ⟨va, vb, rfl, h1, h2⟩ := h
  obtain ⟨vc, vd, rfl, h3, h4⟩ := k
  simp only [fr] at h1 h2 h3 h4
  obtain ⟨p0, k0, rfl, _, _⟩ := h1.shape
  obtain ⟨p1, k1, rfl, _, _⟩ := h2.shape
  obtain ⟨p2, k2, rfl, _, _⟩ := h3.shape
  obtain ⟨p3, k3, rfl, _, _⟩ := h4.shape
  show Calls _ _ #[.agg #[.bool s, .slice p0 (limbs a).length k0, .slice p1 (limbs b).length k1], .agg #[.bool t, .slice p2 (limbs c).length k2, .slice p3 (limbs d).length k3]] w _
  obtain ⟨W0, hW, bx, by', br, hsz, hb0⟩ := start3 w #[.bool s, .slice p0 (limbs a).length k0, .slice p1 (limbs b).length k1] #[.bool t, .slice p2 (limbs c).length k2, .slice p3 (limbs d).length k3] #[.bool false, .slice none 0 0, .slice none 0 0] 25
  have H1 := Lib.hid (h1.after hb0)
  have H2 := Lib.hid (h2.after hb0)
  have H3 := Lib.hid (h3.after hb0)
  have H4 := Lib.hid (h4.after hb0)
  have BX := Lib.hid bx
  have BY := Lib.hid by'
  have BR := Lib.hid br
  have HB0 := Lib.hid hb0
  clear h1 h2 h3 h4 bx by' br hb0
  obtain ⟨L, hL⟩ : ∃ L, cf a b = L := ⟨_, rfl⟩
  obtain ⟨H, hH⟩ : ∃ H, cf c d = H := ⟨_, rfl⟩
  have hL0 : 0 < L.length := List.length_pos_iff.2 (hL ▸ cf_ne hb)
  have hH0 : 0 < H.length := List.length_pos_iff.2 (hH ▸ cf_ne hd)
  have HLM : Hid (L.length < 1000000000000) := by rw [← hL]; exact cf_len a b lb
  have HHM : Hid (H.length < 1000000000000) := by rw [← hH]; exact cf_len c d ld
  have HL := Lib.hid hL
  have HH := Lib.hid hH
  rw [hL, hH]
  clear hL hH
  obtain ⟨fin, hfin⟩ : ∃ fin, simpG Ch.begun L H = fin := ⟨_, rfl⟩
  have HFIN := Lib.hid hfin
  rw [hfin]
  clear hfin
  refine callsIn_wide (n := 6).1 (callsIn_of_wp_marks Try.func79 rfl trivial (wpIn_wide.2 ?_) rfl)
  simp only [Try.ntmps79, List.size_toArray, List.length_cons, List.length_nil, Nat.reduceAdd, Nat.reduceSub, Array.replicate_succ, Array.replicate_zero, List.push_toArray, List.append_toArray, List.nil_append, List.cons_append]
  go_upto_region 1 with fail
  rw [← hW]
  clear hW
  go_upto_region 2 with fail
  obtain ⟨w2, hw2⟩ : ∃ w2, w2 = (W0.alloc (.cells #[.slice none 0 0] 105)).alloc (.cells #[.slice none 0 0] 105) := ⟨_, rfl⟩
  have hb2 : Below W0.heap.size W0 w2 := hw2 ▸ held_alloc (held_alloc (Below.refl _ W0))
  have bl : Box w2 W0.heap.size #[.slice none 0 0] 105 := hw2 ▸ (Box.new W0 _ _).alloc _
  have bh : Box w2 (W0.heap.size + 1) #[.slice none 0 0] 105 := by
    rw [hw2]
    have := Box.new (W0.alloc (.cells #[.slice none 0 0] 105)) #[.slice none 0 0] 105
    simpa using this
  replace H1 := Lib.hid (H1.out.after hb2)
  replace H2 := Lib.hid (H2.out.after hb2)
  replace H3 := Lib.hid (H3.out.after hb2)
  replace H4 := Lib.hid (H4.out.after hb2)
  replace BX := Lib.hid (BX.out.after hb2)
  replace BY := Lib.hid (BY.out.after hb2)
  replace BR := Lib.hid (BR.out.after hb2)
  replace HB0 := Lib.hid (HB0.out.trans (hb2.mono HB0.out.size))
  have BL := Lib.hid bl
  have BH := Lib.hid bh
  have hl2 := bh.lt
  rw [← hw2]
  clear hw2 hb2 bl bh
  obtain ⟨OL, hOL⟩ : ∃ OL, W0.heap.size = OL := ⟨_, rfl⟩
  have hOR : w.heap.size + 2 < OL := by omega
  rw [hOL] at BL BH hl2 ⊢
  clear hOL hsz
  obtain ⟨x0, x1, x2⟩ := BX.out.cells3
  go_wp2_with fail
  refine (parts_t _ p0 p1 _ _ k0 k1 s).mono ?_
  rintro e w3 ⟨rfl, rfl⟩
  obtain ⟨W1, hW1⟩ : ∃ W1, W1 = w2.alloc (.cells #[.bool s, .slice p0 (limbs a).length k0, .slice p1 (limbs b).length k1] 25) := ⟨_, rfl⟩
  have hb3 : Below w2.heap.size w2 W1 := hW1 ▸ held_alloc (Below.refl _ w2)
  have bp : Box W1 w2.heap.size #[.bool s, .slice p0 (limbs a).length k0, .slice p1 (limbs b).length k1] 25 := hW1 ▸ Box.new w2 _ _
  replace H1 := Lib.hid (H1.out.after hb3)
  replace H2 := Lib.hid (H2.out.after hb3)
  replace H3 := Lib.hid (H3.out.after hb3)
  replace H4 := Lib.hid (H4.out.after hb3)
  replace BY := Lib.hid (BY.out.after hb3)
  replace BR := Lib.hid (BR.out.after hb3)
  replace BL := Lib.hid (BL.out.after hb3)
  replace BH := Lib.hid (BH.out.after hb3)
  replace HB0 := Lib.hid (HB0.out.trans (hb3.mono HB0.out.size))
  have BP := Lib.hid bp
  rw [← hW1]
  clear hW1 hb3 bp x0 x1 x2 BX
  have hll : OL < W1.heap.size := BL.out.lt
  have hll' : OL + 1 < W1.heap.size := BH.out.lt
  go_wp2_with fail
  refine' (wpIn_wide (n := 6)).1 (wpIn_range_limb (n := 6) rfl (by omega) (gf := 109) (lb := #[.pointer (some ⟨w2.heap.size, 0, none⟩)]) rfl trivial (enters_of Try.func109 (by kernel_rfl) rfl) L.length (fun r W => OutN W1 OL r (L.take r) W) (fun r args W => ∃ (x : Nat) (p : Option Addr) (c : Nat), L[r]? = some x ∧ args = #[.slice p (limbs x).length c, .bool (decide (r + 1 = L.length))] ∧ Sl W (.slice p (limbs x).length c) (limbs x)) (fun _ _ => False)
    (by rintro r args W ⟨x, p, c, _, rfl, _⟩; rfl) (fun r W h => by obtain ⟨_, _, _, _, _, _, _, hg⟩ := h; exact hg.size) (fun r W W' h hb => h.after hb) (fun r W W' l hl h hs hg => h.soft hs hl hg) (by
      refine ⟨none, 0, 0, [], BL.out, ⟨rfl, .inl ⟨rfl, rfl⟩⟩, ?_, World.grownBy.refl _ _⟩
      rw [List.take_zero]; exact EntsN.nil _)
    (fun l W2 J' Y hJJ hJb hJ0 hYY => callsIn_wide.2 (by
      have hg := (hJJ 0 W2 hJ0)
      obtain ⟨_, _, _, _, _, _, _, hg⟩ := hg
      have hn := BL.out.noTag (show 105 ≠ 51 by decide)
      rw [← HL.out] at hYY ⊢
      exact parts1_t l (6 - 1 - 1) W2 w2.heap.size s p0 p1 k0 k1 a b (BP.out.grown' hg (by intro e; injection e with e; omega)) (H1.out.grown hg hn) (H2.out.grown hg hn) hb (by omega) (by omega) J' Y hJb hJ0 hYY))
    (AsP L _) ?hA ?assign ?body ?done ?stop)
  case hA =>
    rintro r args a1 W wA ⟨x, p, c, _, rfl, _⟩
    exact Below.refl _ _
  case assign =>
    intro l r args W K hr hj hv hK
    obtain ⟨x, p, c, hx, rfl, hs⟩ := hv
    have HX := Lib.hid hx
    have HS := Lib.hid hs
    clear hx hs hj
    gi_wp2
    exact AsP.mk ⟨HX.out, HS.out⟩
  case stop =>
    rintro l r W3 W hr hx
    exact hx.elim
  case body =>
    rintro l r args W wA w3 a1 hr hj hv ⟨x, pz, cz, ⟨hx, hsz⟩, rfl, rfl⟩ hj2 hsf hlW hgr
    obtain ⟨po, no, co, es, bo3, hown, hes, hgO⟩ := hj2
    have o0 : w3.cell? ⟨OL, 0, none⟩ = some (.slice po no co) := bo3.cell 0
    have HSZ := Lib.hid (hsz.grown hgr hsf.noTag)
    have HXR := Lib.hid hx
    have HOWN := Lib.hid hown
    have HES := Lib.hid hes
    have BO4 := Lib.hid bo3
    have HGO := Lib.hid hgO
    have hsz' := hgO.size
    have hlt4 := bo3.lt
    have hrl : r < L.length := hr
    have hmx : L.length < 1000000000000 := HLM.out
    obtain ⟨i0, hi, hz0, hz1, hz2⟩ := info_parts infoN
    have hlm : maxLen = 9223372036854775807 := rfl
    have HLM2 := Lib.hid hlm
    have hnr : es.length = r := by rw [hes.1, List.length_take]; omega
    have HNR := Lib.hid hnr
    clear hj hv hown hes bo3 hgO hsf hgr hsz hx hlm hr hnr
    gi_wp2_with (gi_at_builtin; refine wpListIn_append_own _ rfl _ _ 105 rfl W1.heap.size 23 i0 (.slice none 0 0) 1 24 Try.underlying105 hi hz0 hz1 hz2 rfl (by decide) _ _ _ rfl (HOWN.out.alloc _) ⟨w3.heap.size, 0, none⟩ 1 1 [.slice pz (limbs x).length cz] rfl rfl cell_one (by intro u hu; simp at hu; subst hu; rfl) ?c4 ?c5 ?c6 ?_)
    case c4 => rw [HLM2.out]; omega
    case c5 => omega
    case c6 => simp; omega
    intro v' w5 hown' hgrow _
    obtain ⟨b5, hout, hkeep, hlim⟩ := OutN.push (by omega) BO4.out HOWN.out HES.out HSZ.out HGO.out hown' hgrow
    have z0 : w5.cell? ⟨OL, 0, none⟩ = some (.slice po no co) := b5.cell 0
    have z1 := b5.frozen 0
    obtain ⟨p', c6', rfl⟩ := ownsRow_shape hown'
    have HOUT : Hid (OutN W1 OL (r + 1) (L.take (r + 1)) (w5.setCell ⟨OL, 0, none⟩ (.slice p' (r + 1) c6'))) := by
      show OutN _ _ _ _ _
      have e : L.take (r + 1) = L.take r ++ [x] := by
        rw [List.take_add_one, HXR.out]; rfl
      rw [e]
      exact hout
    have HKEEP := Lib.hid hkeep
    have HLIM := Lib.hid hlim
    clear hown' hgrow b5 hout hkeep hlim o0
    gi_wp2
    exact ⟨HOUT.out, HKEEP.out, HLIM.out⟩
  case done =>
  intro Wa hj hK
  rw [List.take_length] at hj
  obtain ⟨gl, cl, bl, rl, hcl, hcm, hge, hgl⟩ := OutN.got hj hL0
  obtain ⟨_, _, _, _, _, _, _, hg⟩ := hj
  have hn := BL.out.noTag (show 105 ≠ 51 by decide)
  replace H3 := Lib.hid (H3.out.grown hg hn)
  replace H4 := Lib.hid (H4.out.grown hg hn)
  replace BY := Lib.hid (BY.out.grown' hg (by intro e; injection e with e; omega))
  replace BR := Lib.hid (BR.out.grown' hg (by intro e; injection e with e; omega))
  replace BH := Lib.hid (BH.out.grown' hg (by intro e; injection e with e; omega))
  replace HB0 := Lib.hid (HB0.out.grown hg HB0.out.size (fun g e => by injection e with e; omega))
  replace BL := Lib.hid bl
  have RL := Lib.hid rl
  have HK1 := Lib.hid hK
  have hglo : gl ≠ OL := by omega
  have hszA := hg.size
  obtain ⟨D1, hD1⟩ : ∃ D1, W1.heap.size = D1 := ⟨_, rfl⟩
  have hD1r : w.heap.size + 2 < D1 := by have := BR.out.lt; omega
  rw [hD1] at HK1 hge hll hll' hszA ⊢
  clear bl rl hK hg hn H1 H2 BP
  clear hD1
  have hlh : OL + 1 < Wa.heap.size := BH.out.lt
  obtain ⟨y0, y1, y2⟩ := BY.out.cells3
  have hly := BY.out.lt
  go_wp2_with fail
  refine (parts_t _ p2 p3 _ _ k2 k3 t).mono ?_
  rintro e w4 ⟨rfl, rfl⟩
  obtain ⟨W2, hW2⟩ : ∃ W2, W2 = Wa.alloc (.cells #[.bool t, .slice p2 (limbs c).length k2, .slice p3 (limbs d).length k3] 25) := ⟨_, rfl⟩
  have hb4 : Below Wa.heap.size Wa W2 := hW2 ▸ held_alloc (Below.refl _ Wa)
  have bq : Box W2 Wa.heap.size #[.bool t, .slice p2 (limbs c).length k2, .slice p3 (limbs d).length k3] 25 := hW2 ▸ Box.new Wa _ _
  replace H3 := Lib.hid (H3.out.after hb4)
  replace H4 := Lib.hid (H4.out.after hb4)
  replace BR := Lib.hid (BR.out.after hb4)
  replace BL := Lib.hid (BL.out.after hb4)
  replace BH := Lib.hid (BH.out.after hb4)
  replace RL := Lib.hid (RL.out.after hb4)
  replace HK1 : Hid (W2.heap[D1]? = some (.deferred (some []))) := (hb4.block D1 (Array.getElem?_eq_some_iff.1 HK1.out).1).trans HK1.out
  replace HB0 := Lib.hid (HB0.out.trans (hb4.mono HB0.out.size))
  have BQ := Lib.hid bq
  have hszW := hb4.size
  rw [← hW2]
  clear hW2 hb4 bq y0 y1 y2 BY hly
  have hl2 : OL + 1 < W2.heap.size := BH.out.lt
  have hqlt := BQ.out.lt
  go_wp2_with fail
  refine' (wpIn_wide (n := 6)).1 (wpIn_range_limb (n := 6) rfl (by omega) (gf := 109) (lb := #[.pointer (some ⟨Wa.heap.size, 0, none⟩)]) rfl trivial (enters_of Try.func109 (by kernel_rfl) rfl) H.length (fun r W => OutN W2 (OL + 1) r (H.take r) W) (fun r args W => ∃ (x : Nat) (p : Option Addr) (c : Nat), H[r]? = some x ∧ args = #[.slice p (limbs x).length c, .bool (decide (r + 1 = H.length))] ∧ Sl W (.slice p (limbs x).length c) (limbs x)) (fun _ _ => False)
    (by rintro r args W ⟨x, p, c, _, rfl, _⟩; rfl) (fun r W h => by obtain ⟨_, _, _, _, _, _, _, hg⟩ := h; exact hg.size) (fun r W W' h hb => h.after hb) (fun r W W' l hl h hs hg => h.soft hs hl hg) (by
      refine ⟨none, 0, 0, [], BH.out, ⟨rfl, .inl ⟨rfl, rfl⟩⟩, ?_, World.grownBy.refl _ _⟩
      rw [List.take_zero]; exact EntsN.nil _)
    (fun l W2 J' Y hJJ hJb hJ0 hYY => callsIn_wide.2 (by
      have hg := (hJJ 0 W2 hJ0)
      obtain ⟨_, _, _, _, _, _, _, hg⟩ := hg
      have hn := BH.out.noTag (show 105 ≠ 51 by decide)
      rw [← HH.out] at hYY ⊢
      exact parts1_t l (6 - 1 - 1) W2 Wa.heap.size t p2 p3 k2 k3 c d (BQ.out.grown' hg (by intro e; injection e with e; omega)) (H3.out.grown hg hn) (H4.out.grown hg hn) hd (by omega) (by omega) J' Y hJb hJ0 hYY))
    (AsP H _) ?hA ?assign ?body ?done ?stop)
  case hA =>
    rintro r args a1 W wA ⟨x, p, c, _, rfl, _⟩
    exact Below.refl _ _
  case assign =>
    intro l r args W K hr hj hv hK
    obtain ⟨x, p, c, hx, rfl, hs⟩ := hv
    have HX := Lib.hid hx
    have HS := Lib.hid hs
    clear hx hs hj
    gi_wp2
    exact AsP.mk ⟨HX.out, HS.out⟩
  case stop =>
    rintro l r W3 W hr hx
    exact hx.elim
  case body =>
    rintro l r args W wA w3 a1 hr hj hv ⟨x, pz, cz, ⟨hx, hsz⟩, rfl, rfl⟩ hj2 hsf hlW hgr
    obtain ⟨po, no, co, es, bo3, hown, hes, hgO⟩ := hj2
    have o0 : w3.cell? ⟨(OL + 1), 0, none⟩ = some (.slice po no co) := bo3.cell 0
    have HSZ := Lib.hid (hsz.grown hgr hsf.noTag)
    have HXR := Lib.hid hx
    have HOWN := Lib.hid hown
    have HES := Lib.hid hes
    have BO4 := Lib.hid bo3
    have HGO := Lib.hid hgO
    have hsz' := hgO.size
    have hlt4 := bo3.lt
    have hrl : r < H.length := hr
    have hmx : H.length < 1000000000000 := HHM.out
    obtain ⟨i0, hi, hz0, hz1, hz2⟩ := info_parts infoN
    have hlm : maxLen = 9223372036854775807 := rfl
    have HLM2 := Lib.hid hlm
    have hnr : es.length = r := by rw [hes.1, List.length_take]; omega
    have HNR := Lib.hid hnr
    clear hj hv hown hes bo3 hgO hsf hgr hsz hx hlm hr hnr
    gi_wp2_with (gi_at_builtin; refine wpListIn_append_own _ rfl _ _ 105 rfl W2.heap.size 23 i0 (.slice none 0 0) 1 24 Try.underlying105 hi hz0 hz1 hz2 rfl (by decide) _ _ _ rfl (HOWN.out.alloc _) ⟨w3.heap.size, 0, none⟩ 1 1 [.slice pz (limbs x).length cz] rfl rfl cell_one (by intro u hu; simp at hu; subst hu; rfl) ?c4 ?c5 ?c6 ?_)
    case c4 => rw [HLM2.out]; omega
    case c5 => omega
    case c6 => simp; omega
    intro v' w5 hown' hgrow _
    obtain ⟨b5, hout, hkeep, hlim⟩ := OutN.push (by omega) BO4.out HOWN.out HES.out HSZ.out HGO.out hown' hgrow
    have z0 : w5.cell? ⟨(OL + 1), 0, none⟩ = some (.slice po no co) := b5.cell 0
    have z1 := b5.frozen 0
    obtain ⟨p', c6', rfl⟩ := ownsRow_shape hown'
    have HOUT : Hid (OutN W2 (OL + 1) (r + 1) (H.take (r + 1)) (w5.setCell ⟨(OL + 1), 0, none⟩ (.slice p' (r + 1) c6'))) := by
      show OutN _ _ _ _ _
      have e : H.take (r + 1) = H.take r ++ [x] := by
        rw [List.take_add_one, HXR.out]; rfl
      rw [e]
      exact hout
    have HKEEP := Lib.hid hkeep
    have HLIM := Lib.hid hlim
    clear hown' hgrow b5 hout hkeep hlim o0
    gi_wp2
    exact ⟨HOUT.out, HKEEP.out, HLIM.out⟩
  case done =>
  intro Wb hj hK
  rw [List.take_length] at hj
  obtain ⟨gh, ch', bh, rh, hdl, hdm', hge2, hgh⟩ := OutN.got hj hH0
  have RL2 := Lib.hid (RL.out.over hj (by omega) (BH.out.noTag (show 105 ≠ 51 by decide)))
  obtain ⟨_, _, _, _, _, _, _, hg⟩ := hj
  replace BL := Lib.hid (BL.out.grown' hg (by intro e; injection e with e; omega))
  replace BR := Lib.hid (BR.out.grown' hg (by intro e; injection e with e; omega))
  replace HB0 := Lib.hid (HB0.out.grown hg HB0.out.size (fun g e => by injection e with e; omega))
  replace HK1 : Hid (Wb.heap[D1]? = some (.deferred (some []))) := (hg.block D1 (Array.getElem?_eq_some_iff.1 HK1.out).1 (by intro e; injection e with e; omega)).trans HK1.out
  have HK2 := Lib.hid hK
  replace BH := Lib.hid bh
  have RH := Lib.hid rh
  obtain ⟨D2, hD2⟩ : ∃ D2, W2.heap.size = D2 := ⟨_, rfl⟩
  have hszb := hg.size
  have hgl2 : gl < D2 := by omega
  rw [hD2] at HK2 hszb hge2 ⊢
  clear bh rh hK hg H3 H4 BQ RL
  go_wp2_with fail
  refine (begun_c _).mono ?_
  rintro e w5 ⟨v5, rfl, hv5, hb5⟩
  obtain ⟨q0, q1, q2, q3, e0, e1, e2, e3, rfl, g0, g1, g2, g3⟩ := hv5.open
  go_upto_region 9 with fail
  obtain ⟨W5, hW5⟩ : ∃ W5, W5 = w5.alloc (.cells #[.slice q0 (limbs Ch.begun.num).length e0, .slice q1 (limbs Ch.begun.den).length e1, .slice q2 (limbs Ch.begun.on).length e2, .slice q3 (limbs Ch.begun.od).length e3] 85) := ⟨_, rfl⟩
  have hbx : Below w5.heap.size w5 W5 := hW5 ▸ held_alloc (Below.refl _ w5)
  have VC : Hid (VarC W5 w5.heap.size Ch.begun) := ⟨_, _, _, _, hW5 ▸ Box.new w5 _ _, hv5.after hbx⟩
  have hb := hb5.trans (hbx.mono hb5.size)
  replace BL := Lib.hid (BL.out.after hb)
  replace BH := Lib.hid (BH.out.after hb)
  replace BR := Lib.hid (BR.out.after hb)
  replace HB0 := Lib.hid (HB0.out.trans (hb.mono HB0.out.size))
  replace HK1 : Hid (W5.heap[D1]? = some (.deferred (some []))) := (hb.block D1 (Array.getElem?_eq_some_iff.1 HK1.out).1).trans HK1.out
  replace HK2 : Hid (W5.heap[D2]? = some (.deferred (some []))) := (hb.block D2 (Array.getElem?_eq_some_iff.1 HK2.out).1).trans HK2.out
  replace RL2 := Lib.hid (RL2.out.after hb)
  replace RH := Lib.hid (RH.out.after hb)
  have hC0 : Wb.heap.size ≤ w5.heap.size := hb5.size
  obtain ⟨C, hC⟩ : ∃ C, w5.heap.size = C := ⟨_, rfl⟩
  rw [← hW5]
  rw [hC] at VC hC0 ⊢
  clear hW5 hbx hb5 hb hC hv5 g0 g1 g2 g3
  have hb0 := BL.out.cell 0
  have HNT : Hid (∀ g, g = C → ¬ Tag32 W5 g) := by
    obtain ⟨_, _, _, _, hbx, _⟩ := VC.out
    rintro g rfl
    exact hbx.noTag (by decide) _ rfl
  obtain ⟨M, hM⟩ : ∃ M, max a b = M := ⟨_, rfl⟩
  have hMl : Hid (∀ x, x ≤ M → (limbs x).length ≤ 32) := fun x hx => by
    rcases Nat.le_total a b with h | h
    · exact Nat.le_trans (limbs_len_mono (by omega)) lb
    · exact Nat.le_trans (limbs_len_mono (by omega)) la
  have haM : a ≤ M := by omega
  have hbM : b ≤ M := by omega
  clear hM
  have hC1 : OL + 1 < C := by omega
  have hglC : gl < C := by omega
  have hghC : gh < C := by omega
  have hRC : w.heap.size + 2 < C := by omega
  go_wp2_with fail
  go_loopg [32] L.length (fun g t wx => ∃ (i A B : Nat) (ch : Ch), i < L.length ∧ i < H.length ∧ 0 < A ∧ 0 < B ∧ A ≤ M ∧ B ≤ M ∧ g = L.length - i ∧ t = .int .i64 (i : Int) ∧ Hid (VarC wx C ch) ∧ Hid (Fx (fun g => g = C) W5 wx) ∧ Hid (simpG ch (L.drop i) (H.drop i) = fin) ∧ Hid (cf A B = (cf a b).drop i) ∧ Hid (a = A * ch.num + B * ch.on ∧ b = A * ch.den + B * ch.od))
  case atStart => exact ⟨0, a, b, Ch.begun, hL0, hH0, ha, hb, haM, hbM, rfl, rfl, VC, Lib.hid (Fx.refl _ _), HFIN, Lib.hid (by simp), Lib.hid ⟨by simp [Ch.begun], by simp [Ch.begun]⟩⟩
  case round =>
    obtain ⟨i, A, B, ch, hiL, hiH, hA, hB, hAM, hBM, rfl, rfl, hvc, hfx, hsim, hcf, hab⟩ := hrel
    clear hb0
    have hp := cf_part hcf.out hB
    rw [HL.out] at hp
    obtain ⟨_, q2, q3, q4⟩ := hp
    obtain ⟨x, hx⟩ : ∃ x, A / B = x := ⟨_, rfl⟩
    obtain ⟨rr, hrr⟩ : ∃ rr, A % B = rr := ⟨_, rfl⟩
    rw [hx] at q2
    rw [hrr] at q3 q4
    have hxA : x ≤ A := by rw [← hx]; exact Nat.div_le_self A B
    have hrB : rr < B := by rw [← hrr]; exact Nat.mod_lt _ hB
    have hdm := Nat.div_add_mod A B
    rw [hx, hrr] at hdm
    obtain ⟨y, hy⟩ : ∃ y, H[i]? = some y := ⟨H[i], List.getElem?_eq_getElem hiH⟩
    have hsim' : Hid (simpG ch (x :: L.drop (i + 1)) (y :: H.drop (i + 1)) = fin) := by
      have h1 : L.drop i = x :: L.drop (i + 1) := by
        rw [List.drop_eq_getElem_cons hiL]
        rw [List.getElem?_eq_getElem hiL] at q2
        injection q2 with q2
        rw [q2]
      have h2 : H.drop i = y :: H.drop (i + 1) := by
        rw [List.drop_eq_getElem_cons hiH]
        rw [List.getElem?_eq_getElem hiH] at hy
        injection hy with hy
        rw [hy]
      have := hsim.out
      rw [h1, h2] at this
      exact this
    have lx : (limbs x).length ≤ 32 := hMl.out x (by omega)
    have hch : Hid (ch.le 32) := by
      obtain ⟨e1, e2⟩ := hab.out
      have m1 : 1 * ch.num ≤ A * ch.num := Nat.mul_le_mul_right _ hA
      have m2 : 1 * ch.on ≤ B * ch.on := Nat.mul_le_mul_right _ hB
      have m3 : 1 * ch.den ≤ A * ch.den := Nat.mul_le_mul_right _ hA
      have m4 : 1 * ch.od ≤ B * ch.od := Nat.mul_le_mul_right _ hB
      exact ⟨hMl.out _ (by omega), hMl.out _ (by omega), hMl.out _ (by omega), hMl.out _ (by omega)⟩
    have b0 : wr.cell? ⟨OL, 0, none⟩ = some (.slice (some ⟨gl, 0, none⟩) L.length cl) := hfx.out.cell (BL.out.cell 0) (by show ¬ OL = C; omega)
    have b1 : wr.cell? ⟨OL + 1, 0, none⟩ = some (.slice (some ⟨gh, 0, none⟩) H.length ch') := hfx.out.cell (BH.out.cell 0) (by show ¬ OL + 1 = C; omega)
    obtain ⟨vx, hvx, hsx⟩ := RL2.out.fx hfx.out (by show ¬ gl = C; omega) HNT.out i x q2
    obtain ⟨vy, hvy, hsy⟩ := RH.out.fx hfx.out (by show ¬ gh = C; omega) HNT.out i y hy
    obtain ⟨px, cx, rfl, _, _⟩ := hsx.shape
    obtain ⟨py, cy, rfl, _, _⟩ := hsy.shape
    have HSX := Lib.hid hsx
    have HSY := Lib.hid hsy
    have ltx := World.block_lt_of_cell? wr _ hvx
    have lty := World.block_lt_of_cell? wr _ hvy
    have lt0 := World.block_lt_of_cell? wr _ b0
    have lt1 := World.block_lt_of_cell? wr _ b1
    have HAB := Lib.hid hab.out
    have Q3 := Lib.hid q3
    have Q4 := Lib.hid q4
    have HDM := Lib.hid hdm
    have mkS : Hid (∀ w', Below wr.heap.size wr w' → w'.cell? ⟨OL, 0, none⟩ = some (.slice (some ⟨gl, 0, none⟩) L.length cl) ∧ w'.cell? ⟨OL + 1, 0, none⟩ = some (.slice (some ⟨gh, 0, none⟩) H.length ch') ∧ w'.cell? ⟨gl, i, none⟩ = some (.slice px (limbs x).length cx) ∧ w'.cell? ⟨gh, i, none⟩ = some (.slice py (limbs y).length cy)) := fun w' hw => ⟨keep_cell hw b0, keep_cell hw b1, keep_cell hw hvx, keep_cell hw hvy⟩
    have HX0 : Hid (Sl wr.drew (.slice px (limbs x).length cx) (limbs x)) := hsx.after (below_dr (Below.refl _ _))
    have HY0 : Hid (Sl wr.drew (.slice py (limbs y).length cy) (limbs y)) := hsy.after (below_dr (Below.refl _ _))
    have hiL' : (i : Int) < (L.length : Int) := Int.ofNat_lt.2 hiL
    have hiH' : (i : Int) < (H.length : Int) := Int.ofNat_lt.2 hiH
    clear hsx hsy hx hrr q2 q3 q4 hdm hy hsim hcf hab
    by_cases hxy : x = y
    · have HXY : Hid (limbs x = limbs y) := by show _ = _; rw [hxy]
      have hs2 := hsim'.out
      simp only [simpG, if_pos hxy] at hs2
      have HS2 := Lib.hid hs2
      clear hxy hs2 hsim'
      go_upto_region 12 with fail
      go_region_held3 (fun w' => w'.cell? ⟨OL, 0, none⟩ = some (.slice (some ⟨gl, 0, none⟩) L.length cl) ∧ w'.cell? ⟨OL + 1, 0, none⟩ = some (.slice (some ⟨gh, 0, none⟩) H.length ch') ∧ w'.cell? ⟨gl, i, none⟩ = some (.slice px (limbs x).length cx) ∧ w'.cell? ⟨gh, i, none⟩ = some (.slice py (limbs y).length cy))
        (first | (refine mkS.out _ ?_; (repeat (first | with_reducible exact hk1 | with_reducible exact Below.refl _ _ | with_reducible refine below_dr ?_)); done))
        (first
         | (go_at_call 108; ((with_reducible refine (equalN_c wr.drew (.slice px (limbs x).length cx) (.slice py (limbs y).length cy) (limbs x) (limbs y) HX0.out HY0.out).mono ?_); intro e wa hr; obtain ⟨rfl, hw⟩ := hr.yes HXY.out; have hk1 : Below wr.heap.size wr wa := below_of_drew (below_dn hw); have hHx := (mkS.out _ hk1).2.2))
         | (fail))
      clear mkS HX0 HY0 hw hr HSY hvy b0 b1 hvx
      have VC1 := Lib.hid (hvc.out.after hk1)
      have FX1 := Lib.hid (hfx.out.below hk1)
      have HSX1 := Lib.hid (HSX.out.after hk1)
      have a0 : wa.cell? ⟨OL, 0, none⟩ = some (.slice (some ⟨gl, 0, none⟩) L.length cl) := FX1.out.cell (BL.out.cell 0) (by show ¬ OL = C; omega)
      have a1 : wa.cell? ⟨OL + 1, 0, none⟩ = some (.slice (some ⟨gh, 0, none⟩) H.length ch') := FX1.out.cell (BH.out.cell 0) (by show ¬ OL + 1 = C; omega)
      have a2 : wa.cell? ⟨gl, i, none⟩ = some (.slice px (limbs x).length cx) := hHx.1
      obtain ⟨r0, r1, r2, r3, f0, f1, f2, f3, bC, isC⟩ := VC1.out.open
      obtain ⟨g0, g1, g2, g3⟩ := bC.cells4
      have BC := Lib.hid bC
      have HCD : Hid (IsC wa.drew (.agg #[.slice r0 (limbs ch.num).length f0, .slice r1 (limbs ch.den).length f1, .slice r2 (limbs ch.on).length f2, .slice r3 (limbs ch.od).length f3]) ch) := isC.after (below_dr (Below.refl _ _))
      have HXD : Hid (Sl wa.drew (.slice px (limbs x).length cx) (limbs x)) := HSX1.out.after (below_dr (Below.refl _ _))
      have hle : Hid (ch.le 1000) := ⟨by have := hch.out.1; omega, by have := hch.out.2.1; omega, by have := hch.out.2.2.1; omega, by have := hch.out.2.2.2; omega⟩
      have lx1 : (limbs x).length ≤ 1000 := by omega
      have hltc := bC.lt
      clear bC isC hHx
      go_upto_region 13 with fail
      go_still_tail 5, (by kernel_rfl)
      change wpList _ _ _ _ _ wa.drew
      have hd0 : Below wa.heap.size wa wa.drew := below_dr (Below.refl _ _)
      obtain ⟨wd, hwd⟩ : ∃ wd : World, wa.drew = wd := ⟨_, rfl⟩
      rw [hwd] at HCD HXD hd0 ⊢
      clear hwd
      replace VC1 := Lib.hid (VC1.out.after hd0)
      replace FX1 := Lib.hid (FX1.out.below hd0)
      clear hd0 g0 g1 g2 g3 BC a0 a1 a2 HSX1 HSX hk1
      go_wp2_with fail
      refine (after_c _ _ _ ch x HCD.out HXD.out hle.out lx1).mono ?_
      rintro e we ⟨ve, rfl, hve, hbe⟩
      obtain ⟨n0, n1, n2, n3, m0, m1, m2, m3, rfl, _, _, _, _⟩ := hve.open
      have HVE := Lib.hid hve
      replace VC1 := Lib.hid (VC1.out.after hbe)
      replace FX1 := Lib.hid (FX1.out.below hbe)
      obtain ⟨_, _, _, _, _, _, _, _, bC, _⟩ := VC1.out.open
      obtain ⟨j0, j1, j2, j3⟩ := bC.cells4
      have i0 := bC.frozen 0
      have i1 := bC.frozen 1
      have i2 := bC.frozen 2
      have i3 := bC.frozen 3
      have hltc' := bC.lt
      clear hve hbe HCD HXD bC hltc
      go_upto_region 14 with fail
      obtain ⟨W7, hW7⟩ : ∃ W7, W7 = (((we.setCell ⟨C, 0, none⟩ (.slice n0 (limbs (ch.after x).num).length m0)).setCell ⟨C, 1, none⟩ (.slice n1 (limbs (ch.after x).den).length m1)).setCell ⟨C, 2, none⟩ (.slice n2 (limbs (ch.after x).on).length m2)).setCell ⟨C, 3, none⟩ (.slice n3 (limbs (ch.after x).od).length m3) := ⟨_, rfl⟩
      obtain ⟨hst, hgr⟩ := VC1.out.store HVE.out
      rw [← hW7] at hst hgr ⊢
      have VC7 := Lib.hid hst
      have FX7 := Lib.hid (FX1.out.of hgr rfl)
      have s0 : W7.cell? ⟨OL, 0, none⟩ = some (.slice (some ⟨gl, 0, none⟩) L.length cl) := FX7.out.cell (BL.out.cell 0) (by show ¬ OL = C; omega)
      have s1 : W7.cell? ⟨OL + 1, 0, none⟩ = some (.slice (some ⟨gh, 0, none⟩) H.length ch') := FX7.out.cell (BH.out.cell 0) (by show ¬ OL + 1 = C; omega)
      clear hW7 hst hgr j0 j1 j2 j3 i0 i1 i2 i3 hltc' VC1 FX1 HVE
      by_cases hend : i + 1 = L.length ∨ i + 1 = H.length
      · have HF : Hid (ch.after x = fin) := by
          have := HS2.out
          rw [if_pos (by rw [List.drop_eq_nil_iff, List.drop_eq_nil_iff]; omega)] at this
          exact this
        rcases Nat.lt_or_ge (i + 1) L.length with hlt | hge'
        · have hb1 : (((i : Int) + 1) == (L.length : Int)) = false := beq_eq_false_iff_ne.2 (by omega)
          have hb2 : (i : Int) + 1 = (H.length : Int) := by omega
          go_upto_region 15 with fail
          clear s0 s1 hb1 hb2
          obtain ⟨z0, z1, z2, z3, y0, y1, y2, y3, bC, isC⟩ := VC7.out.open
          obtain ⟨j0, j1, j2, j3⟩ := bC.cells4
          have hltc := bC.lt
          have HIC := Lib.hid isC
          have BR7 := Lib.hid (BR.out.fx FX7.out (by show ¬ w.heap.size + 2 = C; omega))
          have HB7 := Lib.hid (HB0.out.trans (FX7.out.toBelow HB0.out.size (fun g e => by rw [e]; omega)))
          have K1 : Hid (W7.heap[D1]? = some (.deferred (some []))) := (FX7.out.block D1 (Array.getElem?_eq_some_iff.1 HK1.out).1 (by show ¬ D1 = C; omega)).trans HK1.out
          have K2 : Hid (W7.heap[D2]? = some (.deferred (some []))) := (FX7.out.block D2 (Array.getElem?_eq_some_iff.1 HK2.out).1 (by show ¬ D2 = C; omega)).trans HK2.out
          clear bC isC
          go_wp2_with fail
          refine (chainRatio_c _ _ _ HIC.out).mono ?_
          rw [HF.out]
          rintro e wf ⟨vf, rfl, hvf, hbf⟩
          obtain ⟨vfa, vfb, rfl, hfa, hfb⟩ := hvf
          obtain ⟨pf, cf1, rfl, _, _⟩ := hfa.shape
          obtain ⟨pg, cf2, rfl, _, _⟩ := hfb.shape
          have HFA := Lib.hid hfa
          have HFB := Lib.hid hfb
          have BRf := Lib.hid (BR7.out.after hbf)
          have HBf := Lib.hid (HB7.out.trans (hbf.mono HB7.out.size))
          replace K1 : Hid (wf.heap[D1]? = some (.deferred (some []))) := (hbf.block D1 (Array.getElem?_eq_some_iff.1 K1.out).1).trans K1.out
          replace K2 : Hid (wf.heap[D2]? = some (.deferred (some []))) := (hbf.block D2 (Array.getElem?_eq_some_iff.1 K2.out).1).trans K2.out
          obtain ⟨x0, x1, x2⟩ := BRf.out.cells3
          have f0 := BRf.out.frozen 0
          have f1 := BRf.out.frozen 1
          have f2 := BRf.out.frozen 2
          have hltr := BRf.out.lt
          clear hfa hfb hbf j0 j1 j2 j3 hltc
          go_wp2_with fail
          have hw2 := ((HBf.out.setCell (p := ⟨w.heap.size + 2, 0, none⟩) (by simp) (.bool (fr false fin.num fin.den).neg)).setCell (p := ⟨w.heap.size + 2, 1, none⟩) (by simp) (.slice pf (fr false fin.num fin.den).num.length cf1)).setCell (p := ⟨w.heap.size + 2, 2, none⟩) (by simp) (.slice pg (fr false fin.num fin.den).den.length cf2)
          have hres := IsF.result (neg := (fr false fin.num fin.den).neg) BRf.out (fun _ h => by cases h) (fun _ h => by cases h) HFA.out HFB.out
          have hcs := (end_box BRf.out (y0 := .bool (fr false fin.num fin.den).neg) (y1 := .slice pf (fr false fin.num fin.den).num.length cf1) (y2 := .slice pg (fr false fin.num fin.den).den.length cf2))
          have k1 := (grown_set3 wf (w.heap.size + 2) (.bool (fr false fin.num fin.den).neg) (.slice pf (fr false fin.num fin.den).num.length cf1) (.slice pg (fr false fin.num fin.den).den.length cf2)).block D1 (Array.getElem?_eq_some_iff.1 K1.out).1 (by intro e; injection e with e; omega)
          have k2 := (grown_set3 wf (w.heap.size + 2) (.bool (fr false fin.num fin.den).neg) (.slice pf (fr false fin.num fin.den).num.length cf1) (.slice pg (fr false fin.num fin.den).den.length cf2)).block D2 (Array.getElem?_eq_some_iff.1 K2.out).1 (by intro e; injection e with e; omega)
          rw [K1.out] at k1
          rw [K2.out] at k2
          rw [show w.heap.size + 1 + 1 = w.heap.size + 2 from rfl]
          exact simp_end hw2 hres hcs k1 k2 (by omega) (by omega) (by omega)
        · have hb1 : (i : Int) + 1 = (L.length : Int) := by omega
          go_upto_region 15 with fail
          clear s0 s1 hb1
          obtain ⟨z0, z1, z2, z3, y0, y1, y2, y3, bC, isC⟩ := VC7.out.open
          obtain ⟨j0, j1, j2, j3⟩ := bC.cells4
          have hltc := bC.lt
          have HIC := Lib.hid isC
          have BR7 := Lib.hid (BR.out.fx FX7.out (by show ¬ w.heap.size + 2 = C; omega))
          have HB7 := Lib.hid (HB0.out.trans (FX7.out.toBelow HB0.out.size (fun g e => by rw [e]; omega)))
          have K1 : Hid (W7.heap[D1]? = some (.deferred (some []))) := (FX7.out.block D1 (Array.getElem?_eq_some_iff.1 HK1.out).1 (by show ¬ D1 = C; omega)).trans HK1.out
          have K2 : Hid (W7.heap[D2]? = some (.deferred (some []))) := (FX7.out.block D2 (Array.getElem?_eq_some_iff.1 HK2.out).1 (by show ¬ D2 = C; omega)).trans HK2.out
          clear bC isC
          go_wp2_with fail
          refine (chainRatio_c _ _ _ HIC.out).mono ?_
          rw [HF.out]
          rintro e wf ⟨vf, rfl, hvf, hbf⟩
          obtain ⟨vfa, vfb, rfl, hfa, hfb⟩ := hvf
          obtain ⟨pf, cf1, rfl, _, _⟩ := hfa.shape
          obtain ⟨pg, cf2, rfl, _, _⟩ := hfb.shape
          have HFA := Lib.hid hfa
          have HFB := Lib.hid hfb
          have BRf := Lib.hid (BR7.out.after hbf)
          have HBf := Lib.hid (HB7.out.trans (hbf.mono HB7.out.size))
          replace K1 : Hid (wf.heap[D1]? = some (.deferred (some []))) := (hbf.block D1 (Array.getElem?_eq_some_iff.1 K1.out).1).trans K1.out
          replace K2 : Hid (wf.heap[D2]? = some (.deferred (some []))) := (hbf.block D2 (Array.getElem?_eq_some_iff.1 K2.out).1).trans K2.out
          obtain ⟨x0, x1, x2⟩ := BRf.out.cells3
          have f0 := BRf.out.frozen 0
          have f1 := BRf.out.frozen 1
          have f2 := BRf.out.frozen 2
          have hltr := BRf.out.lt
          clear hfa hfb hbf j0 j1 j2 j3 hltc
          go_wp2_with fail
          have hw2 := ((HBf.out.setCell (p := ⟨w.heap.size + 2, 0, none⟩) (by simp) (.bool (fr false fin.num fin.den).neg)).setCell (p := ⟨w.heap.size + 2, 1, none⟩) (by simp) (.slice pf (fr false fin.num fin.den).num.length cf1)).setCell (p := ⟨w.heap.size + 2, 2, none⟩) (by simp) (.slice pg (fr false fin.num fin.den).den.length cf2)
          have hres := IsF.result (neg := (fr false fin.num fin.den).neg) BRf.out (fun _ h => by cases h) (fun _ h => by cases h) HFA.out HFB.out
          have hcs := (end_box BRf.out (y0 := .bool (fr false fin.num fin.den).neg) (y1 := .slice pf (fr false fin.num fin.den).num.length cf1) (y2 := .slice pg (fr false fin.num fin.den).den.length cf2))
          have k1 := (grown_set3 wf (w.heap.size + 2) (.bool (fr false fin.num fin.den).neg) (.slice pf (fr false fin.num fin.den).num.length cf1) (.slice pg (fr false fin.num fin.den).den.length cf2)).block D1 (Array.getElem?_eq_some_iff.1 K1.out).1 (by intro e; injection e with e; omega)
          have k2 := (grown_set3 wf (w.heap.size + 2) (.bool (fr false fin.num fin.den).neg) (.slice pf (fr false fin.num fin.den).num.length cf1) (.slice pg (fr false fin.num fin.den).den.length cf2)).block D2 (Array.getElem?_eq_some_iff.1 K2.out).1 (by intro e; injection e with e; omega)
          rw [K1.out] at k1
          rw [K2.out] at k2
          rw [show w.heap.size + 1 + 1 = w.heap.size + 2 from rfl]
          exact simp_end hw2 hres hcs k1 k2 (by omega) (by omega) (by omega)
      · have hne1 : ¬ ((i : Int) + 1 = (L.length : Int)) := by omega
        have hne2 : ¬ ((i : Int) + 1 = (H.length : Int)) := by omega
        have HS3 : Hid (simpG (ch.after x) (L.drop (i + 1)) (H.drop (i + 1)) = fin) := by
          have := HS2.out
          rw [if_neg (by rw [List.drop_eq_nil_iff, List.drop_eq_nil_iff]; omega)] at this
          exact this
        have hr0 : rr ≠ 0 := fun e => by have := Q3.out e; omega
        obtain ⟨hq1, hq2⟩ := Q4.out hr0
        have HCF : Hid (cf B rr = (cf a b).drop (i + 1)) := by rw [HL.out]; exact hq2
        have HAB2 : Hid (a = B * (ch.after x).num + rr * (ch.after x).on ∧ b = B * (ch.after x).den + rr * (ch.after x).od) := by
          obtain ⟨e1, e2⟩ := HAB.out
          have hdm := HDM.out
          unfold Ch.after
          simp only
          rw [← hdm] at e1 e2
          exact ⟨by rw [e1]; grind, by rw [e2]; grind⟩
        have hb1 : (((i : Int) + 1) == (L.length : Int)) = false := beq_eq_false_iff_ne.2 hne1
        have hb2 : (((i : Int) + 1) == (H.length : Int)) = false := beq_eq_false_iff_ne.2 hne2
        have hiH2 : i + 1 < H.length := by omega
        clear hend hq2 HS2 Q3 Q4 HAB
        go_wp2_with fail
        go_roundg (L.length - (i + 1))
        case measure => omega
        case rel => exact ⟨i + 1, B, rr, ch.after x, hq1, hiH2, hB, by omega, hBM, by omega, rfl, by go_num, VC7, FX7, HS3, HCF, HAB2⟩
    · have HXY : Hid (¬ limbs x = limbs y) := fun e => hxy (limbs_inj e)
      have hs2 := hsim'.out
      simp only [simpG, if_neg hxy] at hs2
      have HS2 := Lib.hid hs2
      clear hs2 hsim'
      go_upto_region 12 with fail
      go_region_held3 (fun w' => w'.cell? ⟨OL, 0, none⟩ = some (.slice (some ⟨gl, 0, none⟩) L.length cl) ∧ w'.cell? ⟨OL + 1, 0, none⟩ = some (.slice (some ⟨gh, 0, none⟩) H.length ch') ∧ w'.cell? ⟨gl, i, none⟩ = some (.slice px (limbs x).length cx) ∧ w'.cell? ⟨gh, i, none⟩ = some (.slice py (limbs y).length cy))
        (first | (refine mkS.out _ ?_; (repeat (first | with_reducible exact hk1 | with_reducible exact Below.refl _ _ | with_reducible refine below_dr ?_)); done))
        (first
         | (go_at_call 108; ((with_reducible refine (equalN_c wr.drew (.slice px (limbs x).length cx) (.slice py (limbs y).length cy) (limbs x) (limbs y) HX0.out HY0.out).mono ?_); intro e wa hr; obtain ⟨rfl, hw⟩ := hr.no HXY.out; have hk1 : Below wr.heap.size wr wa := below_of_drew (below_dn hw)))
         | (fail))
      have hd0 : Below wr.heap.size wr wa := hk1
      clear HX0 HY0 hw hr b0 b1 hvx hvy HXY
      have VCc := Lib.hid (hvc.out.after hd0)
      have FXc := Lib.hid (hfx.out.below hd0)
      replace HSX := Lib.hid (HSX.out.after hd0)
      replace HSY := Lib.hid (HSY.out.after hd0)
      obtain ⟨b0, b1, hvx, hvy⟩ := mkS.out _ hd0
      clear mkS
      have mkS1 : Hid (∀ w', Below wa.heap.size wa w' → w'.cell? ⟨OL, 0, none⟩ = some (.slice (some ⟨gl, 0, none⟩) L.length cl) ∧ w'.cell? ⟨OL + 1, 0, none⟩ = some (.slice (some ⟨gh, 0, none⟩) H.length ch') ∧ w'.cell? ⟨gl, i, none⟩ = some (.slice px (limbs x).length cx) ∧ w'.cell? ⟨gh, i, none⟩ = some (.slice py (limbs y).length cy)) := fun w' hw => ⟨keep_cell hw b0, keep_cell hw b1, keep_cell hw hvx, keep_cell hw hvy⟩
      have HX1 : Hid (Sl wa.drew (.slice px (limbs x).length cx) (limbs x)) := HSX.out.after (below_dr (Below.refl _ _))
      have HY1 : Hid (Sl wa.drew (.slice py (limbs y).length cy) (limbs y)) := HSY.out.after (below_dr (Below.refl _ _))
      clear hk1 hd0
      have hwr : IntKind.i64.wrap ((i : Int) + 1) = (i : Int) + 1 := wrap_in (by omega) (by have := HLM.out; omega)
      go_upto_region 16 with fail
      go_region_held3 (fun w' => w'.cell? ⟨OL, 0, none⟩ = some (.slice (some ⟨gl, 0, none⟩) L.length cl) ∧ w'.cell? ⟨OL + 1, 0, none⟩ = some (.slice (some ⟨gh, 0, none⟩) H.length ch') ∧ w'.cell? ⟨gl, i, none⟩ = some (.slice px (limbs x).length cx) ∧ w'.cell? ⟨gh, i, none⟩ = some (.slice py (limbs y).length cy))
        (first | (refine mkS1.out _ ?_; (repeat (first | with_reducible exact Below.refl _ _ | with_reducible refine below_dr ?_)); done))
        (fail)
      obtain ⟨wb, hwb⟩ : ∃ wb : World, wa.drew = wb := ⟨_, rfl⟩
      have hd0 : Below wa.heap.size wa wb := hwb ▸ below_dr (Below.refl _ _)
      rw [hwb]
      clear hwb mkS1
      clear HX1 HY1
      replace VCc := Lib.hid (VCc.out.after hd0)
      replace FXc := Lib.hid (FXc.out.below hd0)
      replace HSX := Lib.hid (HSX.out.after hd0)
      replace HSY := Lib.hid (HSY.out.after hd0)
      replace b0 := keep_cell hd0 b0
      replace b1 := keep_cell hd0 b1
      replace hvx := keep_cell hd0 hvx
      replace hvy := keep_cell hd0 hvy
      have mkS1 : Hid (∀ w', Below wb.heap.size wb w' → w'.cell? ⟨OL, 0, none⟩ = some (.slice (some ⟨gl, 0, none⟩) L.length cl) ∧ w'.cell? ⟨OL + 1, 0, none⟩ = some (.slice (some ⟨gh, 0, none⟩) H.length ch') ∧ w'.cell? ⟨gl, i, none⟩ = some (.slice px (limbs x).length cx) ∧ w'.cell? ⟨gh, i, none⟩ = some (.slice py (limbs y).length cy)) := fun w' hw => ⟨keep_cell hw b0, keep_cell hw b1, keep_cell hw hvx, keep_cell hw hvy⟩
      have HX1 : Hid (Sl wb.drew (.slice px (limbs x).length cx) (limbs x)) := HSX.out.after (below_dr (Below.refl _ _))
      have HY1 : Hid (Sl wb.drew (.slice py (limbs y).length cy) (limbs y)) := HSY.out.after (below_dr (Below.refl _ _))
      clear hd0
      by_cases hyx : y < x
      · rw [if_pos hyx] at HS2
        have ly : (limbs y).length ≤ 32 := hMl.out y (by omega)
        go_upto_region 17 with fail
        go_region_held3 (fun w' => w'.cell? ⟨OL, 0, none⟩ = some (.slice (some ⟨gl, 0, none⟩) L.length cl) ∧ w'.cell? ⟨OL + 1, 0, none⟩ = some (.slice (some ⟨gh, 0, none⟩) H.length ch') ∧ w'.cell? ⟨gl, i, none⟩ = some (.slice px (limbs x).length cx) ∧ w'.cell? ⟨gh, i, none⟩ = some (.slice py (limbs y).length cy))
          (first | (refine mkS1.out _ ?_; (repeat (first | with_reducible exact hk1 | with_reducible exact Below.refl _ _ | with_reducible refine below_dr ?_)); done))
          (first
           | (go_at_call 82; ((with_reducible refine (compare_c wb.drew (.slice py (limbs y).length cy) (.slice px (limbs x).length cx) (limbs y) (limbs x) HY1.out HX1.out).mono ?_); rintro e wc ⟨r, rfl, hr, hw⟩; have hr0 : r < 0 := hr.lt.2 hyx; have hk1 : Below wb.heap.size wb wc := below_of_drew (below_dn hw)))
           | (fail))
        have hd0 := hk1
        clear hk1 hw hr hr0 mkS1 HX1 HY1
        replace VCc := Lib.hid (VCc.out.after hd0)
        replace FXc := Lib.hid (FXc.out.below hd0)
        replace HSX := Lib.hid (HSX.out.after hd0)
        replace HSY := Lib.hid (HSY.out.after hd0)
        replace b0 := keep_cell hd0 b0
        replace b1 := keep_cell hd0 b1
        replace hvx := keep_cell hd0 hvx
        replace hvy := keep_cell hd0 hvy
        have mkS1 : Hid (∀ w', Below wc.heap.size wc w' → w'.cell? ⟨OL, 0, none⟩ = some (.slice (some ⟨gl, 0, none⟩) L.length cl) ∧ w'.cell? ⟨OL + 1, 0, none⟩ = some (.slice (some ⟨gh, 0, none⟩) H.length ch') ∧ w'.cell? ⟨gl, i, none⟩ = some (.slice px (limbs x).length cx) ∧ w'.cell? ⟨gh, i, none⟩ = some (.slice py (limbs y).length cy)) := fun w' hw => ⟨keep_cell hw b0, keep_cell hw b1, keep_cell hw hvx, keep_cell hw hvy⟩
        have HX1 : Hid (Sl wc.drew (.slice px (limbs x).length cx) (limbs x)) := HSX.out.after (below_dr (Below.refl _ _))
        have HY1 : Hid (Sl wc.drew (.slice py (limbs y).length cy) (limbs y)) := HSY.out.after (below_dr (Below.refl _ _))
        clear hd0
        by_cases hls : i + 1 = H.length
        · have hb1 : (((i : Int) + 1) == (H.length : Int)) = true := by rw [beq_iff_eq]; omega
          have HF : Hid (ch.after y = fin) := by
            have := HS2.out
            rw [if_pos (by rw [List.drop_eq_nil_iff]; omega)] at this
            exact this
          go_upto_region 18 with fail
          go_region_held3 (fun w' => w'.cell? ⟨OL, 0, none⟩ = some (.slice (some ⟨gl, 0, none⟩) L.length cl) ∧ w'.cell? ⟨OL + 1, 0, none⟩ = some (.slice (some ⟨gh, 0, none⟩) H.length ch') ∧ w'.cell? ⟨gl, i, none⟩ = some (.slice px (limbs x).length cx) ∧ w'.cell? ⟨gh, i, none⟩ = some (.slice py (limbs y).length cy))
            (first | (refine mkS1.out _ ?_; (repeat (first | with_reducible exact Below.refl _ _ | with_reducible refine below_dr ?_)); done))
            (fail)
          obtain ⟨wd, hwd⟩ : ∃ wd : World, wc.drew = wd := ⟨_, rfl⟩
          have hd0 : Below wc.heap.size wc wd := hwd ▸ below_dr (Below.refl _ _)
          rw [hwd]
          replace VCc := Lib.hid (VCc.out.after hd0)
          replace FXc := Lib.hid (FXc.out.below hd0)
          have HZ := Lib.hid (HSY.out.after hd0)
          clear hwd hd0
          clear mkS1 HX1 HY1 b0 b1 hvx hvy
          clear hwr
          obtain ⟨r0, r1, r2, r3, f0', f1', f2', f3', bC, isC⟩ := VCc.out.open
          obtain ⟨g0, g1, g2, g3⟩ := bC.cells4
          have hltc := bC.lt
          have HIC := Lib.hid isC
          have hle : Hid (ch.le 1000) := ⟨by have := hch.out.1; omega, by have := hch.out.2.1; omega, by have := hch.out.2.2.1; omega, by have := hch.out.2.2.2; omega⟩
          have lz : (limbs y).length ≤ 1000 := by
            have h1 := limbs_add_len y 1
            rw [limbs_one] at h1
            simp only [List.length_cons, List.length_nil] at h1
            omega
          clear bC isC
          go_upto_region 21 with fail
          go_wp2_with fail
          refine (after_c _ _ _ ch y HIC.out HZ.out hle.out lz).mono ?_
          rintro e we ⟨ve, rfl, hve, hbe⟩
          obtain ⟨n0, n1, n2, n3, m0, m1, m2, m3, rfl, _, _, _, _⟩ := hve.open
          have HVE := Lib.hid hve
          have FXe := Lib.hid (FXc.out.below hbe)
          have BR7 := Lib.hid (BR.out.fx FXe.out (by show ¬ w.heap.size + 2 = C; omega))
          have HB7 := Lib.hid (HB0.out.trans (FXe.out.toBelow HB0.out.size (fun g e => by rw [e]; omega)))
          have K1 : Hid (we.heap[D1]? = some (.deferred (some []))) := (FXe.out.block D1 (Array.getElem?_eq_some_iff.1 HK1.out).1 (by show ¬ D1 = C; omega)).trans HK1.out
          have K2 : Hid (we.heap[D2]? = some (.deferred (some []))) := (FXe.out.block D2 (Array.getElem?_eq_some_iff.1 HK2.out).1 (by show ¬ D2 = C; omega)).trans HK2.out
          clear hve hbe g0 g1 g2 g3 hltc HIC HZ
          go_wp2_with fail
          refine (chainRatio_c _ _ _ HVE.out).mono ?_
          rw [HF.out]
          rintro e wf ⟨vf, rfl, hvf, hbf⟩
          obtain ⟨vfa, vfb, rfl, hfa, hfb⟩ := hvf
          obtain ⟨pf, cf1, rfl, _, _⟩ := hfa.shape
          obtain ⟨pg, cf2, rfl, _, _⟩ := hfb.shape
          have HFA := Lib.hid hfa
          have HFB := Lib.hid hfb
          have BRf := Lib.hid (BR7.out.after hbf)
          have HBf := Lib.hid (HB7.out.trans (hbf.mono HB7.out.size))
          replace K1 : Hid (wf.heap[D1]? = some (.deferred (some []))) := (hbf.block D1 (Array.getElem?_eq_some_iff.1 K1.out).1).trans K1.out
          replace K2 : Hid (wf.heap[D2]? = some (.deferred (some []))) := (hbf.block D2 (Array.getElem?_eq_some_iff.1 K2.out).1).trans K2.out
          obtain ⟨x0, x1, x2⟩ := BRf.out.cells3
          have f0 := BRf.out.frozen 0
          have f1 := BRf.out.frozen 1
          have f2 := BRf.out.frozen 2
          have hltr := BRf.out.lt
          clear hfa hfb hbf
          go_wp2_with fail
          have hw2 := ((HBf.out.setCell (p := ⟨w.heap.size + 2, 0, none⟩) (by simp) (.bool (fr false fin.num fin.den).neg)).setCell (p := ⟨w.heap.size + 2, 1, none⟩) (by simp) (.slice pf (fr false fin.num fin.den).num.length cf1)).setCell (p := ⟨w.heap.size + 2, 2, none⟩) (by simp) (.slice pg (fr false fin.num fin.den).den.length cf2)
          have hres := IsF.result (neg := (fr false fin.num fin.den).neg) BRf.out (fun _ h => by cases h) (fun _ h => by cases h) HFA.out HFB.out
          have hcs := (end_box BRf.out (y0 := .bool (fr false fin.num fin.den).neg) (y1 := .slice pf (fr false fin.num fin.den).num.length cf1) (y2 := .slice pg (fr false fin.num fin.den).den.length cf2))
          have k1 := (grown_set3 wf (w.heap.size + 2) (.bool (fr false fin.num fin.den).neg) (.slice pf (fr false fin.num fin.den).num.length cf1) (.slice pg (fr false fin.num fin.den).den.length cf2)).block D1 (Array.getElem?_eq_some_iff.1 K1.out).1 (by intro e; injection e with e; omega)
          have k2 := (grown_set3 wf (w.heap.size + 2) (.bool (fr false fin.num fin.den).neg) (.slice pf (fr false fin.num fin.den).num.length cf1) (.slice pg (fr false fin.num fin.den).den.length cf2)).block D2 (Array.getElem?_eq_some_iff.1 K2.out).1 (by intro e; injection e with e; omega)
          rw [K1.out] at k1
          rw [K2.out] at k2
          rw [show w.heap.size + 1 + 1 = w.heap.size + 2 from rfl]
          exact simp_end hw2 hres hcs k1 k2 (by omega) (by omega) (by omega)
        · have hb1 : (((i : Int) + 1) == (H.length : Int)) = false := beq_eq_false_iff_ne.2 (by omega)
          have HF : Hid (ch.after (y + 1) = fin) := by
            have := HS2.out
            rw [if_neg (by rw [List.drop_eq_nil_iff]; omega)] at this
            exact this
          go_upto_region 18 with fail
          go_region_held3 (fun w' => w'.cell? ⟨OL, 0, none⟩ = some (.slice (some ⟨gl, 0, none⟩) L.length cl) ∧ w'.cell? ⟨OL + 1, 0, none⟩ = some (.slice (some ⟨gh, 0, none⟩) H.length ch') ∧ w'.cell? ⟨gl, i, none⟩ = some (.slice px (limbs x).length cx) ∧ w'.cell? ⟨gh, i, none⟩ = some (.slice py (limbs y).length cy))
            (first | (refine mkS1.out _ ?_; (repeat (first | with_reducible exact Below.refl _ _ | with_reducible refine below_dr ?_)); done))
            (fail)
          obtain ⟨wd, hwd⟩ : ∃ wd : World, wc.drew = wd := ⟨_, rfl⟩
          have hd0 : Below wc.heap.size wc wd := hwd ▸ below_dr (Below.refl _ _)
          rw [hwd]
          replace VCc := Lib.hid (VCc.out.after hd0)
          replace FXc := Lib.hid (FXc.out.below hd0)
          have HZ := Lib.hid (HSY.out.after hd0)
          clear hwd hd0
          clear mkS1 HX1 HY1 b0 b1 hvx hvy
          clear hwr
          go_upto_region 20 with fail
          go_wp2_with fail
          refine (unit_c _).mono ?_
          rintro e wu ⟨vu, rfl, hvu, hbu⟩
          go_wp2_with fail
          refine (plus_n _ _ _ y 1 (HZ.out.after hbu) hvu (by omega) (by rw [limbs_one]; simp)).mono ?_
          rintro e wv ⟨vv, rfl, hvv, hbv⟩
          obtain ⟨pv, cv, rfl, _, _⟩ := hvv.shape
          have hbb := hbu.trans (hbv.mono hbu.size)
          replace VCc := Lib.hid (VCc.out.after hbb)
          replace FXc := Lib.hid (FXc.out.below hbb)
          replace HZ := Lib.hid hvv
          clear hvu hbu hbv hbb hvv
          obtain ⟨r0, r1, r2, r3, f0', f1', f2', f3', bC, isC⟩ := VCc.out.open
          obtain ⟨g0, g1, g2, g3⟩ := bC.cells4
          have hltc := bC.lt
          have HIC := Lib.hid isC
          have hle : Hid (ch.le 1000) := ⟨by have := hch.out.1; omega, by have := hch.out.2.1; omega, by have := hch.out.2.2.1; omega, by have := hch.out.2.2.2; omega⟩
          have lz : (limbs (y + 1)).length ≤ 1000 := by
            have h1 := limbs_add_len y 1
            rw [limbs_one] at h1
            simp only [List.length_cons, List.length_nil] at h1
            omega
          clear bC isC
          go_upto_region 21 with fail
          go_wp2_with fail
          refine (after_c _ _ _ ch (y + 1) HIC.out HZ.out hle.out lz).mono ?_
          rintro e we ⟨ve, rfl, hve, hbe⟩
          obtain ⟨n0, n1, n2, n3, m0, m1, m2, m3, rfl, _, _, _, _⟩ := hve.open
          have HVE := Lib.hid hve
          have FXe := Lib.hid (FXc.out.below hbe)
          have BR7 := Lib.hid (BR.out.fx FXe.out (by show ¬ w.heap.size + 2 = C; omega))
          have HB7 := Lib.hid (HB0.out.trans (FXe.out.toBelow HB0.out.size (fun g e => by rw [e]; omega)))
          have K1 : Hid (we.heap[D1]? = some (.deferred (some []))) := (FXe.out.block D1 (Array.getElem?_eq_some_iff.1 HK1.out).1 (by show ¬ D1 = C; omega)).trans HK1.out
          have K2 : Hid (we.heap[D2]? = some (.deferred (some []))) := (FXe.out.block D2 (Array.getElem?_eq_some_iff.1 HK2.out).1 (by show ¬ D2 = C; omega)).trans HK2.out
          clear hve hbe g0 g1 g2 g3 hltc HIC HZ
          go_wp2_with fail
          refine (chainRatio_c _ _ _ HVE.out).mono ?_
          rw [HF.out]
          rintro e wf ⟨vf, rfl, hvf, hbf⟩
          obtain ⟨vfa, vfb, rfl, hfa, hfb⟩ := hvf
          obtain ⟨pf, cf1, rfl, _, _⟩ := hfa.shape
          obtain ⟨pg, cf2, rfl, _, _⟩ := hfb.shape
          have HFA := Lib.hid hfa
          have HFB := Lib.hid hfb
          have BRf := Lib.hid (BR7.out.after hbf)
          have HBf := Lib.hid (HB7.out.trans (hbf.mono HB7.out.size))
          replace K1 : Hid (wf.heap[D1]? = some (.deferred (some []))) := (hbf.block D1 (Array.getElem?_eq_some_iff.1 K1.out).1).trans K1.out
          replace K2 : Hid (wf.heap[D2]? = some (.deferred (some []))) := (hbf.block D2 (Array.getElem?_eq_some_iff.1 K2.out).1).trans K2.out
          obtain ⟨x0, x1, x2⟩ := BRf.out.cells3
          have f0 := BRf.out.frozen 0
          have f1 := BRf.out.frozen 1
          have f2 := BRf.out.frozen 2
          have hltr := BRf.out.lt
          clear hfa hfb hbf
          go_wp2_with fail
          have hw2 := ((HBf.out.setCell (p := ⟨w.heap.size + 2, 0, none⟩) (by simp) (.bool (fr false fin.num fin.den).neg)).setCell (p := ⟨w.heap.size + 2, 1, none⟩) (by simp) (.slice pf (fr false fin.num fin.den).num.length cf1)).setCell (p := ⟨w.heap.size + 2, 2, none⟩) (by simp) (.slice pg (fr false fin.num fin.den).den.length cf2)
          have hres := IsF.result (neg := (fr false fin.num fin.den).neg) BRf.out (fun _ h => by cases h) (fun _ h => by cases h) HFA.out HFB.out
          have hcs := (end_box BRf.out (y0 := .bool (fr false fin.num fin.den).neg) (y1 := .slice pf (fr false fin.num fin.den).num.length cf1) (y2 := .slice pg (fr false fin.num fin.den).den.length cf2))
          have k1 := (grown_set3 wf (w.heap.size + 2) (.bool (fr false fin.num fin.den).neg) (.slice pf (fr false fin.num fin.den).num.length cf1) (.slice pg (fr false fin.num fin.den).den.length cf2)).block D1 (Array.getElem?_eq_some_iff.1 K1.out).1 (by intro e; injection e with e; omega)
          have k2 := (grown_set3 wf (w.heap.size + 2) (.bool (fr false fin.num fin.den).neg) (.slice pf (fr false fin.num fin.den).num.length cf1) (.slice pg (fr false fin.num fin.den).den.length cf2)).block D2 (Array.getElem?_eq_some_iff.1 K2.out).1 (by intro e; injection e with e; omega)
          rw [K1.out] at k1
          rw [K2.out] at k2
          rw [show w.heap.size + 1 + 1 = w.heap.size + 2 from rfl]
          exact simp_end hw2 hres hcs k1 k2 (by omega) (by omega) (by omega)
      · rw [if_neg hyx] at HS2
        go_upto_region 17 with fail
        go_region_held3 (fun w' => w'.cell? ⟨OL, 0, none⟩ = some (.slice (some ⟨gl, 0, none⟩) L.length cl) ∧ w'.cell? ⟨OL + 1, 0, none⟩ = some (.slice (some ⟨gh, 0, none⟩) H.length ch') ∧ w'.cell? ⟨gl, i, none⟩ = some (.slice px (limbs x).length cx) ∧ w'.cell? ⟨gh, i, none⟩ = some (.slice py (limbs y).length cy))
          (first | (refine mkS1.out _ ?_; (repeat (first | with_reducible exact hk1 | with_reducible exact Below.refl _ _ | with_reducible refine below_dr ?_)); done))
          (first
           | (go_at_call 82; ((with_reducible refine (compare_c wb.drew (.slice py (limbs y).length cy) (.slice px (limbs x).length cx) (limbs y) (limbs x) HY1.out HX1.out).mono ?_); rintro e wc ⟨r, rfl, hr, hw⟩; have hr0 : decide (r < 0) = false := decide_eq_false (fun h => hyx (hr.lt.1 h)); have hk1 : Below wb.heap.size wb wc := below_of_drew (below_dn hw)))
           | (fail))
        have hd0 := hk1
        clear hk1 hw hr hr0 mkS1 HX1 HY1
        replace VCc := Lib.hid (VCc.out.after hd0)
        replace FXc := Lib.hid (FXc.out.below hd0)
        replace HSX := Lib.hid (HSX.out.after hd0)
        replace HSY := Lib.hid (HSY.out.after hd0)
        replace b0 := keep_cell hd0 b0
        replace b1 := keep_cell hd0 b1
        replace hvx := keep_cell hd0 hvx
        replace hvy := keep_cell hd0 hvy
        have mkS1 : Hid (∀ w', Below wc.heap.size wc w' → w'.cell? ⟨OL, 0, none⟩ = some (.slice (some ⟨gl, 0, none⟩) L.length cl) ∧ w'.cell? ⟨OL + 1, 0, none⟩ = some (.slice (some ⟨gh, 0, none⟩) H.length ch') ∧ w'.cell? ⟨gl, i, none⟩ = some (.slice px (limbs x).length cx) ∧ w'.cell? ⟨gh, i, none⟩ = some (.slice py (limbs y).length cy)) := fun w' hw => ⟨keep_cell hw b0, keep_cell hw b1, keep_cell hw hvx, keep_cell hw hvy⟩
        have HX1 : Hid (Sl wc.drew (.slice px (limbs x).length cx) (limbs x)) := HSX.out.after (below_dr (Below.refl _ _))
        have HY1 : Hid (Sl wc.drew (.slice py (limbs y).length cy) (limbs y)) := HSY.out.after (below_dr (Below.refl _ _))
        clear hd0
        by_cases hls : i + 1 = L.length
        · have hb1 : (((i : Int) + 1) == (L.length : Int)) = true := by rw [beq_iff_eq]; omega
          have HF : Hid (ch.after x = fin) := by
            have := HS2.out
            rw [if_pos (by rw [List.drop_eq_nil_iff]; omega)] at this
            exact this
          have HZ := HSX
          clear mkS1 HX1 HY1 b0 b1 hvx hvy
          clear hwr
          obtain ⟨r0, r1, r2, r3, f0', f1', f2', f3', bC, isC⟩ := VCc.out.open
          obtain ⟨g0, g1, g2, g3⟩ := bC.cells4
          have hltc := bC.lt
          have HIC := Lib.hid isC
          have hle : Hid (ch.le 1000) := ⟨by have := hch.out.1; omega, by have := hch.out.2.1; omega, by have := hch.out.2.2.1; omega, by have := hch.out.2.2.2; omega⟩
          have lz : (limbs x).length ≤ 1000 := by
            have h1 := limbs_add_len x 1
            rw [limbs_one] at h1
            simp only [List.length_cons, List.length_nil] at h1
            omega
          clear bC isC
          go_upto_region 21 with fail
          go_wp2_with fail
          refine (after_c _ _ _ ch x HIC.out HZ.out hle.out lz).mono ?_
          rintro e we ⟨ve, rfl, hve, hbe⟩
          obtain ⟨n0, n1, n2, n3, m0, m1, m2, m3, rfl, _, _, _, _⟩ := hve.open
          have HVE := Lib.hid hve
          have FXe := Lib.hid (FXc.out.below hbe)
          have BR7 := Lib.hid (BR.out.fx FXe.out (by show ¬ w.heap.size + 2 = C; omega))
          have HB7 := Lib.hid (HB0.out.trans (FXe.out.toBelow HB0.out.size (fun g e => by rw [e]; omega)))
          have K1 : Hid (we.heap[D1]? = some (.deferred (some []))) := (FXe.out.block D1 (Array.getElem?_eq_some_iff.1 HK1.out).1 (by show ¬ D1 = C; omega)).trans HK1.out
          have K2 : Hid (we.heap[D2]? = some (.deferred (some []))) := (FXe.out.block D2 (Array.getElem?_eq_some_iff.1 HK2.out).1 (by show ¬ D2 = C; omega)).trans HK2.out
          clear hve hbe g0 g1 g2 g3 hltc HIC HZ
          go_wp2_with fail
          refine (chainRatio_c _ _ _ HVE.out).mono ?_
          rw [HF.out]
          rintro e wf ⟨vf, rfl, hvf, hbf⟩
          obtain ⟨vfa, vfb, rfl, hfa, hfb⟩ := hvf
          obtain ⟨pf, cf1, rfl, _, _⟩ := hfa.shape
          obtain ⟨pg, cf2, rfl, _, _⟩ := hfb.shape
          have HFA := Lib.hid hfa
          have HFB := Lib.hid hfb
          have BRf := Lib.hid (BR7.out.after hbf)
          have HBf := Lib.hid (HB7.out.trans (hbf.mono HB7.out.size))
          replace K1 : Hid (wf.heap[D1]? = some (.deferred (some []))) := (hbf.block D1 (Array.getElem?_eq_some_iff.1 K1.out).1).trans K1.out
          replace K2 : Hid (wf.heap[D2]? = some (.deferred (some []))) := (hbf.block D2 (Array.getElem?_eq_some_iff.1 K2.out).1).trans K2.out
          obtain ⟨x0, x1, x2⟩ := BRf.out.cells3
          have f0 := BRf.out.frozen 0
          have f1 := BRf.out.frozen 1
          have f2 := BRf.out.frozen 2
          have hltr := BRf.out.lt
          clear hfa hfb hbf
          go_wp2_with fail
          have hw2 := ((HBf.out.setCell (p := ⟨w.heap.size + 2, 0, none⟩) (by simp) (.bool (fr false fin.num fin.den).neg)).setCell (p := ⟨w.heap.size + 2, 1, none⟩) (by simp) (.slice pf (fr false fin.num fin.den).num.length cf1)).setCell (p := ⟨w.heap.size + 2, 2, none⟩) (by simp) (.slice pg (fr false fin.num fin.den).den.length cf2)
          have hres := IsF.result (neg := (fr false fin.num fin.den).neg) BRf.out (fun _ h => by cases h) (fun _ h => by cases h) HFA.out HFB.out
          have hcs := (end_box BRf.out (y0 := .bool (fr false fin.num fin.den).neg) (y1 := .slice pf (fr false fin.num fin.den).num.length cf1) (y2 := .slice pg (fr false fin.num fin.den).den.length cf2))
          have k1 := (grown_set3 wf (w.heap.size + 2) (.bool (fr false fin.num fin.den).neg) (.slice pf (fr false fin.num fin.den).num.length cf1) (.slice pg (fr false fin.num fin.den).den.length cf2)).block D1 (Array.getElem?_eq_some_iff.1 K1.out).1 (by intro e; injection e with e; omega)
          have k2 := (grown_set3 wf (w.heap.size + 2) (.bool (fr false fin.num fin.den).neg) (.slice pf (fr false fin.num fin.den).num.length cf1) (.slice pg (fr false fin.num fin.den).den.length cf2)).block D2 (Array.getElem?_eq_some_iff.1 K2.out).1 (by intro e; injection e with e; omega)
          rw [K1.out] at k1
          rw [K2.out] at k2
          rw [show w.heap.size + 1 + 1 = w.heap.size + 2 from rfl]
          exact simp_end hw2 hres hcs k1 k2 (by omega) (by omega) (by omega)
        · have hb1 : (((i : Int) + 1) == (L.length : Int)) = false := beq_eq_false_iff_ne.2 (by omega)
          have HF : Hid (ch.after (x + 1) = fin) := by
            have := HS2.out
            rw [if_neg (by rw [List.drop_eq_nil_iff]; omega)] at this
            exact this
          have HZ := HSX
          clear mkS1 HX1 HY1 b0 b1 hvx hvy
          clear hwr
          go_upto_region 20 with fail
          go_wp2_with fail
          refine (unit_c _).mono ?_
          rintro e wu ⟨vu, rfl, hvu, hbu⟩
          go_wp2_with fail
          refine (plus_n _ _ _ x 1 (HZ.out.after hbu) hvu (by omega) (by rw [limbs_one]; simp)).mono ?_
          rintro e wv ⟨vv, rfl, hvv, hbv⟩
          obtain ⟨pv, cv, rfl, _, _⟩ := hvv.shape
          have hbb := hbu.trans (hbv.mono hbu.size)
          replace VCc := Lib.hid (VCc.out.after hbb)
          replace FXc := Lib.hid (FXc.out.below hbb)
          replace HZ := Lib.hid hvv
          clear hvu hbu hbv hbb hvv
          obtain ⟨r0, r1, r2, r3, f0', f1', f2', f3', bC, isC⟩ := VCc.out.open
          obtain ⟨g0, g1, g2, g3⟩ := bC.cells4
          have hltc := bC.lt
          have HIC := Lib.hid isC
          have hle : Hid (ch.le 1000) := ⟨by have := hch.out.1; omega, by have := hch.out.2.1; omega, by have := hch.out.2.2.1; omega, by have := hch.out.2.2.2; omega⟩
          have lz : (limbs (x + 1)).length ≤ 1000 := by
            have h1 := limbs_add_len x 1
            rw [limbs_one] at h1
            simp only [List.length_cons, List.length_nil] at h1
            omega
          clear bC isC
          go_upto_region 21 with fail
          go_wp2_with fail
          refine (after_c _ _ _ ch (x + 1) HIC.out HZ.out hle.out lz).mono ?_
          rintro e we ⟨ve, rfl, hve, hbe⟩
          obtain ⟨n0, n1, n2, n3, m0, m1, m2, m3, rfl, _, _, _, _⟩ := hve.open
          have HVE := Lib.hid hve
          have FXe := Lib.hid (FXc.out.below hbe)
          have BR7 := Lib.hid (BR.out.fx FXe.out (by show ¬ w.heap.size + 2 = C; omega))
          have HB7 := Lib.hid (HB0.out.trans (FXe.out.toBelow HB0.out.size (fun g e => by rw [e]; omega)))
          have K1 : Hid (we.heap[D1]? = some (.deferred (some []))) := (FXe.out.block D1 (Array.getElem?_eq_some_iff.1 HK1.out).1 (by show ¬ D1 = C; omega)).trans HK1.out
          have K2 : Hid (we.heap[D2]? = some (.deferred (some []))) := (FXe.out.block D2 (Array.getElem?_eq_some_iff.1 HK2.out).1 (by show ¬ D2 = C; omega)).trans HK2.out
          clear hve hbe g0 g1 g2 g3 hltc HIC HZ
          go_wp2_with fail
          refine (chainRatio_c _ _ _ HVE.out).mono ?_
          rw [HF.out]
          rintro e wf ⟨vf, rfl, hvf, hbf⟩
          obtain ⟨vfa, vfb, rfl, hfa, hfb⟩ := hvf
          obtain ⟨pf, cf1, rfl, _, _⟩ := hfa.shape
          obtain ⟨pg, cf2, rfl, _, _⟩ := hfb.shape
          have HFA := Lib.hid hfa
          have HFB := Lib.hid hfb
          have BRf := Lib.hid (BR7.out.after hbf)
          have HBf := Lib.hid (HB7.out.trans (hbf.mono HB7.out.size))
          replace K1 : Hid (wf.heap[D1]? = some (.deferred (some []))) := (hbf.block D1 (Array.getElem?_eq_some_iff.1 K1.out).1).trans K1.out
          replace K2 : Hid (wf.heap[D2]? = some (.deferred (some []))) := (hbf.block D2 (Array.getElem?_eq_some_iff.1 K2.out).1).trans K2.out
          obtain ⟨x0, x1, x2⟩ := BRf.out.cells3
          have f0 := BRf.out.frozen 0
          have f1 := BRf.out.frozen 1
          have f2 := BRf.out.frozen 2
          have hltr := BRf.out.lt
          clear hfa hfb hbf
          go_wp2_with fail
          have hw2 := ((HBf.out.setCell (p := ⟨w.heap.size + 2, 0, none⟩) (by simp) (.bool (fr false fin.num fin.den).neg)).setCell (p := ⟨w.heap.size + 2, 1, none⟩) (by simp) (.slice pf (fr false fin.num fin.den).num.length cf1)).setCell (p := ⟨w.heap.size + 2, 2, none⟩) (by simp) (.slice pg (fr false fin.num fin.den).den.length cf2)
          have hres := IsF.result (neg := (fr false fin.num fin.den).neg) BRf.out (fun _ h => by cases h) (fun _ h => by cases h) HFA.out HFB.out
          have hcs := (end_box BRf.out (y0 := .bool (fr false fin.num fin.den).neg) (y1 := .slice pf (fr false fin.num fin.den).num.length cf1) (y2 := .slice pg (fr false fin.num fin.den).den.length cf2))
          have k1 := (grown_set3 wf (w.heap.size + 2) (.bool (fr false fin.num fin.den).neg) (.slice pf (fr false fin.num fin.den).num.length cf1) (.slice pg (fr false fin.num fin.den).den.length cf2)).block D1 (Array.getElem?_eq_some_iff.1 K1.out).1 (by intro e; injection e with e; omega)
          have k2 := (grown_set3 wf (w.heap.size + 2) (.bool (fr false fin.num fin.den).neg) (.slice pf (fr false fin.num fin.den).num.length cf1) (.slice pg (fr false fin.num fin.den).den.length cf2)).block D2 (Array.getElem?_eq_some_iff.1 K2.out).1 (by intro e; injection e with e; omega)
          rw [K1.out] at k1
          rw [K2.out] at k2
          rw [show w.heap.size + 1 + 1 = w.heap.size + 2 from rfl]
          exact simp_end hw2 hres hcs k1 k2 (by omega) (by omega) (by omega)
end Go.Proofs.Ytaojdlcailpheaa
