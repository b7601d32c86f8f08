/- Walks of package tails: Critical.
   Walks of package tails: Critical, where it is refused; Critical.
   Walks of the reference: trim, From, ValidNat, Compare, SameNat. -/
import Derived.Test.YtebmegodeglobaaK12
import Derived.Test.YtebmegodeglobaaK13
import Derived.Test.YtebmegodeglobaaK02
import Derived.Deep.LoopGhost
set_option linter.unusedVariables false
namespace Go.Proofs.Ytebmegodeglobaa
open Go.RowKit Go.Shelf
attribute [local go_sem] Oper.semAt_some

/-- The part at k is above the bound x / y. -/
def Abv (n a c x y k : Nat) : Prop := (a + c) ^ n * x < tl a c n k * y
/-- Where the tails come above the bound, from n down. -/
def CritR (n a c x y r : Nat) : Prop := (∃ k, k ≤ n ∧ Abv n a c x y k ∧ (∀ j, k < j → j ≤ n → ¬ Abv n a c x y j) ∧ r = k + 1) ∨ ((∀ j, j ≤ n → ¬ Abv n a c x y j) ∧ r = 0)
set_option maxRecDepth 100000 in
set_option maxHeartbeats 4000000 in
theorem tCritical_good (w : World) (n a b x y : Nat) (v u : Value) (h : IsF w v (fr false a b)) (k : IsF w u (fr false x y)) (hn : n ≤ 64) (hab : a ≤ b) (hb0 : 0 < b) (hb1 : b ≤ 1000) (hok : Ok false x y)
    (hc : checkE (fr false a b) (trialsB (n : Int) 0 0) = 0) (hf : fracE (fr false x y) = 0) :
    Calls Try.prog 25 #[.int .i64 (n : Int), v, u] w fun e w' => ∃ m : Nat, e = .returned (.tuple #[.int .i64 (m : Int), .int .i64 0]) ∧ CritR n a (b - a) x y m ∧ Below w.heap.size w w' := by
  have HX := h
  have HY := k
  obtain ⟨va, vb, rfl, h1, h2⟩ := h
  obtain ⟨vc, vd, rfl, k1, k2⟩ := k
  obtain ⟨p, cp, rfl, _, _⟩ := h1.shape
  obtain ⟨q, cq, rfl, _, _⟩ := h2.shape
  obtain ⟨p', cp', rfl, _, _⟩ := k1.shape
  obtain ⟨q', cq', rfl, _, _⟩ := k2.shape
  obtain ⟨W0, hW, bP, bB, bR, bE, hsz, hb0'⟩ : ∃ W0, W0 = (((w.alloc (.cells #[.bool (fr false a b).neg, .slice p (fr false a b).num.length cp, .slice q (fr false a b).den.length cq] 26)).alloc (.cells #[.bool (fr false x y).neg, .slice p' (fr false x y).num.length cp', .slice q' (fr false x y).den.length cq'] 26)).alloc (.cells #[.int .i64 0] 3)).alloc (.cells #[.int .i64 0] 31) ∧
      Box W0 w.heap.size #[.bool (fr false a b).neg, .slice p (fr false a b).num.length cp, .slice q (fr false a b).den.length cq] 26 ∧ Box W0 (w.heap.size + 1) #[.bool (fr false x y).neg, .slice p' (fr false x y).num.length cp', .slice q' (fr false x y).den.length cq'] 26 ∧ Box W0 (w.heap.size + 1 + 1) #[.int .i64 0] 3 ∧ Box W0 (w.heap.size + 1 + 1 + 1) #[.int .i64 0] 31 ∧ W0.heap.size = w.heap.size + 4 ∧ Below w.heap.size w W0 :=
    ⟨_, rfl, fourA rfl, fourB rfl, fourC rfl, fourD rfl, by simp, held_alloc (held_alloc (held_alloc (held_alloc (Below.refl _ w))))⟩
  obtain ⟨c0, c1, c2⟩ := bP.cells3
  obtain ⟨d0, d1, d2⟩ := bB.cells3
  have HP := Lib.hid (HX.after hb0')
  have HBd := Lib.hid (HY.after hb0')
  have HB0 := Lib.hid hb0'
  have BP := Lib.hid bP
  have BB := Lib.hid bB
  have BR := Lib.hid bR
  have BE := Lib.hid bE
  have HC := Lib.hid hc
  have HF := Lib.hid hf
  have mkS : Hid (∀ w', Below W0.heap.size W0 w' → w'.cell? ⟨w.heap.size, 0, none⟩ = some (.bool (fr false a b).neg) ∧ w'.cell? ⟨w.heap.size, 1, none⟩ = some (.slice p (fr false a b).num.length cp) ∧ w'.cell? ⟨w.heap.size, 2, none⟩ = some (.slice q (fr false a b).den.length cq) ∧
      w'.cell? ⟨w.heap.size + 1, 0, none⟩ = some (.bool (fr false x y).neg) ∧ w'.cell? ⟨w.heap.size + 1, 1, none⟩ = some (.slice p' (fr false x y).num.length cp') ∧ w'.cell? ⟨w.heap.size + 1, 2, none⟩ = some (.slice q' (fr false x y).den.length cq')) :=
    fun w' hb => ⟨keep_cell hb c0, keep_cell hb c1, keep_cell hb c2, keep_cell hb d0, keep_cell hb d1, keep_cell hb d2⟩
  have HN := Lib.hid hn
  have HAB := Lib.hid hab
  have HPB := Lib.hid hb0
  have HB1 := Lib.hid hb1
  clear HX HY h1 h2 k1 k2 bP bB bR bE hb0' c0 c1 c2 d0 d1 d2 hc hf
  refine callsIn_wide (n := 6).1 (callsIn_of_wp_marks Try.func25 rfl trivial (wpIn_wide.2 ?_) rfl)
  simp only [Try.ntmps25, List.size_toArray, List.length_cons, List.length_nil, Nat.reduceAdd, Nat.reduceSub, Array.replicate_succ, Array.replicate_zero, List.push_toArray, List.append_toArray, List.nil_append, List.cons_append]
  go_upto_region 1 with fail
  rw [← hW]
  clear hW
  go_region_held3 (fun w' => w'.cell? ⟨w.heap.size, 0, none⟩ = some (.bool (fr false a b).neg) ∧ w'.cell? ⟨w.heap.size, 1, none⟩ = some (.slice p (fr false a b).num.length cp) ∧ w'.cell? ⟨w.heap.size, 2, none⟩ = some (.slice q (fr false a b).den.length cq) ∧
      w'.cell? ⟨w.heap.size + 1, 0, none⟩ = some (.bool (fr false x y).neg) ∧ w'.cell? ⟨w.heap.size + 1, 1, none⟩ = some (.slice p' (fr false x y).num.length cp') ∧ w'.cell? ⟨w.heap.size + 1, 2, none⟩ = some (.slice q' (fr false x y).den.length cq'))
    (first | (refine mkS.out _ ?_; (repeat (first | with_reducible exact hk3 | with_reducible exact hk2 | with_reducible exact Below.refl _ _ | with_reducible refine below_dr ?_)); done))
    (first
     | (go_at_call 32; refine (ttrials_c _ _ _ _).mono ?_; rintro e w' ⟨rfl, rfl⟩)
     | (go_at_call 31; refine (checked_c _ _ (fr false a b) _ ?_).mono ?_; exact HP.out.after (below_dr (Below.refl _ W0)); rw [HC.out]; rintro e w2 ⟨rfl, hb2⟩; have hk2 := below_of_drew hb2)
     | (go_at_call 41; refine (fraction_c _ _ (fr false x y) ?_).mono ?_; exact HBd.out.after hk2; rw [HF.out]; rintro e w3 ⟨rfl, hb3⟩; have hk3 := hk2.trans (hb3.mono hk2.size)))
  have HP3 := Lib.hid (HP.out.after hk3)
  have HBd3 := Lib.hid (HBd.out.after hk3)
  have HK3 := Lib.hid hk3
  obtain ⟨c0, c1, c2⟩ := (BP.out.after hk3).cells3
  clear hk2 hk3 hb2 hb3 mkS HP HBd
  go_wp2_with fail
  refine (spreadOf_t _ _ n a b HP3.out HAB.out HPB.out HB1.out HN.out).mono ?_
  rintro e w4 ⟨u4, rfl, hu4, hb4⟩
  obtain ⟨vi, vj, g2, g9, g10, rfl, hi1, hi2, hpart⟩ := hu4
  have hab' : a + (b - a) = b := by have := HAB.out; omega
  have hac : Hid (a + (b - a) ≤ 1000) := by show _ ≤ _; rw [hab']; exact HB1.out
  rw [hab'] at hi1
  obtain ⟨p1, cp1, rfl, _, _⟩ := hi1.shape
  obtain ⟨q1, cq1, rfl, _, _⟩ := hi2.shape
  obtain ⟨W5, hW5⟩ : ∃ W5, W5 = w4.alloc (.cells #[.int .i64 (n : Int), .bool false, .slice p1 (limbs (b ^ n)).length cp1, .slice q1 (limbs 1).length cq1, .func (.func 51) #[] #[.pointer (some ⟨g2, 0, none⟩), .pointer (some ⟨g9, 0, none⟩), .pointer (some ⟨g10, 0, none⟩)]] 79) := ⟨_, rfl⟩
  have hb5 : Below w4.heap.size w4 W5 := hW5 ▸ held_alloc (Below.refl _ w4)
  have bx5 : Box W5 w4.heap.size #[.int .i64 (n : Int), .bool false, .slice p1 (limbs (b ^ n)).length cp1, .slice q1 (limbs 1).length cq1, .func (.func 51) #[] #[.pointer (some ⟨g2, 0, none⟩), .pointer (some ⟨g9, 0, none⟩), .pointer (some ⟨g10, 0, none⟩)]] 79 := hW5 ▸ Box.new w4 _ _
  have hb45 := hb4.trans (hb5.mono hb4.size)
  have HK5 := Lib.hid (HK3.out.trans (hb45.mono HK3.out.size))
  have HSP5 := Lib.hid (show IsSp W5 (.agg #[.int .i64 (n : Int), .bool false, .slice p1 (limbs (b ^ n)).length cp1, .slice q1 (limbs 1).length cq1, .func (.func 51) #[] #[.pointer (some ⟨g2, 0, none⟩), .pointer (some ⟨g9, 0, none⟩), .pointer (some ⟨g10, 0, none⟩)]]) n a (b - a) from ⟨_, _, g2, g9, g10, rfl, by rw [hab']; exact hi1.after hb5, hi2.after hb5, hpart.after hb5⟩)
  have HBd5 := Lib.hid (HBd3.out.after hb45)
  have BX5 := Lib.hid bx5
  obtain ⟨s0, s1, s2, s3, s4⟩ := bx5.cells5
  obtain ⟨d0, d1, d2⟩ := (BB.out.after HK5.out).cells3
  clear hi1 hi2 hpart hb4 hb5 hb45 bx5 c0 c1 c2 HP3 HBd3
  go_upto_region 7 with fail
  rw [← hW5]
  clear hW5
  go_wp2_with fail
  refine (above_t _ _ _ n a (b - a) x y HSP5.out HBd5.out).mono ?_
  rintro e w6 ⟨f6, rfl, hf6, hb6⟩
  obtain ⟨D, S, N, B, va6, vb6, e2, e9, e10, rfl, hfacts⟩ := hf6
  have HAb := Lib.hid (show IsAb w6 (.func (.func 64) #[] #[.pointer (some ⟨D, 0, none⟩), .pointer (some ⟨S, 0, none⟩), .pointer (some ⟨N, 0, none⟩), .pointer (some ⟨B, 0, none⟩)]) n a (b - a) x y from ⟨D, S, N, B, va6, vb6, e2, e9, e10, rfl, hfacts⟩)
  obtain ⟨W7, hW7⟩ : ∃ W7, W7 = w6.alloc (.cells #[(.func (.func 64) #[] #[.pointer (some ⟨D, 0, none⟩), .pointer (some ⟨S, 0, none⟩), .pointer (some ⟨N, 0, none⟩), .pointer (some ⟨B, 0, none⟩)])] 86) := ⟨_, rfl⟩
  have hb7 : Below w6.heap.size w6 W7 := hW7 ▸ held_alloc (Below.refl _ w6)
  have bx7 : Box W7 w6.heap.size #[(.func (.func 64) #[] #[.pointer (some ⟨D, 0, none⟩), .pointer (some ⟨S, 0, none⟩), .pointer (some ⟨N, 0, none⟩), .pointer (some ⟨B, 0, none⟩)])] 86 := hW7 ▸ Box.new w6 _ _
  have hb67 := hb6.trans (hb7.mono hb6.size)
  have hz7 : w.heap.size + 4 ≤ w6.heap.size := by have := hb6.size; have := HK5.out.size; omega
  have HK7 := Lib.hid (HK5.out.trans (hb67.mono HK5.out.size))
  have HAb7 := Lib.hid (HAb.out.after hb7)
  have HSP7 := Lib.hid (HSP5.out.after hb67)
  have BX7 := Lib.hid bx7
  obtain ⟨s0, s1, s2, s3, s4⟩ := (BX5.out.after hb67).cells5
  clear hfacts HAb HSP5 BX5 hb6 hb7 hb67 bx7 d0 d1 d2 HBd5
  go_upto_region 8 with fail
  rw [← hW7]
  clear hW7
  go_wp2_with fail
  refine (down_t _ n g2 g9 g10 p1 q1 (limbs (b ^ n)).length (limbs 1).length cp1 cq1).mono ?_
  rintro e w' ⟨rfl, rfl⟩
  obtain ⟨W8, hW8⟩ : ∃ W8, W8 = W7.alloc (.cells (spCells n (.slice p1 (limbs (b ^ n)).length cp1) (.slice q1 (limbs 1).length cq1) g2 g9 g10) 79) := ⟨_, rfl⟩
  have hb8 : Below W7.heap.size W7 W8 := hW8 ▸ held_alloc (Below.refl _ W7)
  have bx8 : Box W8 W7.heap.size (spCells n (.slice p1 (limbs (b ^ n)).length cp1) (.slice q1 (limbs 1).length cq1) g2 g9 g10) 79 := hW8 ▸ Box.new W7 _ _
  have HK8 := Lib.hid (HK7.out.trans (hb8.mono HK7.out.size))
  have HAb8 := Lib.hid (HAb7.out.after hb8)
  have HSP8 := Lib.hid (HSP7.out.after hb8)
  have BX8 := Lib.hid bx8
  have BF8 := Lib.hid (BX7.out.after hb8)
  have BR8 := Lib.hid (BR.out.after HK8.out)
  have BE8 := Lib.hid (BE.out.after HK8.out)
  have HB8 := Lib.hid (HB0.out.trans (HK8.out.mono HB0.out.size))
  have hz8 : w.heap.size + 4 ≤ W8.heap.size := by have := HK8.out.size; omega
  have hz67 : w6.heap.size < W8.heap.size := (BX7.out.after hb8).lt
  rw [← hW8]
  clear hW8 hb8 bx8 s0 s1 s2 s3 s4 HK7 HAb7 HSP7 BX7
  go_wp2_with fail
  have HOK := Lib.hid hok
  have HA1 : Hid ((limbs ((a + (b - a)) ^ n)).length ≤ 32) := Nat.le_trans (pow_limbs hac.out HN.out) (by omega)
  have HA2 : Hid (0 < (a + (b - a)) ^ n) := Nat.pow_pos (by rw [hab']; exact HPB.out)
  have HT1 : Hid (∀ j, (limbs (tl a (b - a) n j)).length ≤ 32) := fun j => Nat.le_trans (limbs_len_mono (tl_all_le a (b - a) n j)) HA1.out
  obtain ⟨_, _, k2, k9, k10, hsp, _, _, hpart8⟩ := HSP8.out
  simp at hsp
  obtain ⟨_, _, rfl, rfl, rfl⟩ := hsp
  have HPart := Lib.hid hpart8
  clear hpart8 hab' hok
  refine (wpIn_wide (n := 6)).1 (wpIn_range_quiet (n := 6) rfl (by omega) (gf := 65) (lb := #[.pointer (some ⟨W7.heap.size, 0, none⟩)]) rfl trivial (enters_of Try.func65 (by kernel_rfl) rfl) rfl n
    (fun j v W => IsF W v (Wh (tl a (b - a) n j))) (fun j => ¬ Abv n a (b - a) x y j) (fun j W3 => Abv n a (b - a) x y j ∧ Box W3 (w.heap.size + 1 + 1) #[.int .i64 ((j : Int) + 1)] 3 ∧ Box W3 (w.heap.size + 1 + 1 + 1) #[.int .i64 0] 31 ∧ Below w.heap.size w W3)
    (fun l W2 Y hb hYY => callsIn_wide.2 (down1_t l (6 - 1 - 1) W2 W7.heap.size g2 g9 g10 n a (b - a) _ _ (BX8.out.after hb) (HPart.out.after hb) HN.out hac.out (fun j => ¬ Abv n a (b - a) x y j) Y hYY))
    (fun j v a1 W w1 => ∃ (px py : Option Addr) (lx cx ly cy : Nat), v = .agg #[.bool (Wh (tl a (b - a) n j)).neg, .slice px lx cx, .slice py ly cy] ∧ w1 = W.alloc (.cells #[.bool (Wh (tl a (b - a) n j)).neg, .slice px lx cx, .slice py ly cy] 26) ∧
      a1 = { tmps := #[Value.int IntKind.i64 (n : Int), Value.agg #[Value.bool (fr false a b).neg, Value.slice p (fr false a b).num.length cp, Value.slice q (fr false a b).den.length cq], Value.agg #[Value.bool (fr false x y).neg, Value.slice p' (fr false x y).num.length cp', Value.slice q' (fr false x y).den.length cq'], undef, Value.pointer (some { block := w.heap.size, off := 0 }), Value.pointer (some { block := w.heap.size + 1, off := 0 }), Value.pointer (some { block := w.heap.size + 1 + 1, off := 0 }), Value.pointer (some { block := w.heap.size + 1 + 1 + 1, off := 0 }), Value.int IntKind.i64 0, Value.int IntKind.i64 0, Value.pointer (some { block := w4.heap.size, off := 0 }), Value.pointer (some { block := w6.heap.size, off := 0 }), Value.int IntKind.i64 (j : Int), Value.pointer (some ⟨W.heap.size, 0, none⟩), Value.agg #[Value.bool (fr false a b).neg, Value.slice p (fr false a b).num.length cp, Value.slice q (fr false a b).den.length cq], Value.int IntKind.i64 (n : Int), Value.bool (trialsB (n : Int) 0 0), Value.int IntKind.i64 0, Value.agg #[Value.bool (fr false x y).neg, Value.slice p' (fr false x y).num.length cp', Value.slice q' (fr false x y).den.length cq'], Value.int IntKind.i64 0, Value.bool false, Value.int IntKind.i64 0, Value.bool false, Value.bool false, Value.int IntKind.i64 0, Value.bool false, Value.bool false, Value.bool false, Value.int IntKind.i64 0, Value.bool false, Value.bool false, Value.int IntKind.i64 0, Value.bool false, Value.bool false, Value.int IntKind.i64 (n : Int), Value.agg #[Value.bool (fr false a b).neg, Value.slice p (fr false a b).num.length cp, Value.slice q (fr false a b).den.length cq], Value.agg #[Value.int IntKind.i64 (n : Int), Value.bool false, Value.slice p1 (limbs (b ^ n)).length cp1, Value.slice q1 (limbs 1).length cq1, Value.func (Fn.func 51) #[] #[Value.pointer (some { block := g2, off := 0 }), Value.pointer (some { block := g9, off := 0 }), Value.pointer (some { block := g10, off := 0 })]], Value.agg #[Value.int IntKind.i64 (n : Int), Value.bool false, Value.slice p1 (limbs (b ^ n)).length cp1, Value.slice q1 (limbs 1).length cq1, Value.func (Fn.func 51) #[] #[Value.pointer (some { block := g2, off := 0 }), Value.pointer (some { block := g9, off := 0 }), Value.pointer (some { block := g10, off := 0 })]], Value.agg #[Value.bool (fr false x y).neg, Value.slice p' (fr false x y).num.length cp', Value.slice q' (fr false x y).den.length cq'], Value.func (Fn.func 64) #[] #[Value.pointer (some { block := D, off := 0 }), Value.pointer (some { block := S, off := 0 }), Value.pointer (some { block := N, off := 0 }), Value.pointer (some { block := B, off := 0 })], Value.agg #[Value.int IntKind.i64 (n : Int), Value.bool false, Value.slice p1 (limbs (b ^ n)).length cp1, Value.slice q1 (limbs 1).length cq1, Value.func (Fn.func 51) #[] #[Value.pointer (some { block := g2, off := 0 }), Value.pointer (some { block := g9, off := 0 }), Value.pointer (some { block := g10, off := 0 })]], Value.func (Fn.func 65) #[] #[Value.pointer (some { block := W7.heap.size, off := 0 })], Value.int IntKind.i64 (j : Int), Value.agg #[Value.bool (Wh (tl a (b - a) n j)).neg, Value.slice px lx cx, Value.slice py ly cy], undef, undef, undef, undef, undef], defers := [] }) ?hA ?assign ?body ?done ?stop)
  case hA =>
    rintro j v a1 W w1 ⟨px, py, lx, cx, ly, cy, rfl, rfl, _⟩
    exact held_alloc (Below.refl _ W)
  case assign =>
    intro l j v W K hj hv hK
    obtain ⟨vx, vy, rfl, hx, hy⟩ := hv
    obtain ⟨px, cx, rfl, _, _⟩ := hx.shape
    obtain ⟨py, cy, rfl, _, _⟩ := hy.shape
    clear hx hy
    gi_wp2
    refine ⟨px, py, (Wh (tl a (b - a) n j)).num.length, cx, (Wh (tl a (b - a) n j)).den.length, cy, ?_⟩
    simp
  case body =>
    rintro l j v W w1 w2 a1 hj hC hbW hv ⟨px, py, lx, cx, ly, cy, rfl, rfl, rfl⟩ hl1 hl2 hgr htag
    have hr : ∀ g, some l = some g → ¬ Tag32 (W.alloc (.cells #[.bool (Wh (tl a (b - a) n j)).neg, .slice px lx cx, .slice py ly cy] 26)) g := fun g e => by injection e with e; rw [← e]; exact htag
    have hv2 : IsF w2 (.agg #[.bool (Wh (tl a (b - a) n j)).neg, .slice px lx cx, .slice py ly cy]) (Wh (tl a (b - a) n j)) := (hv.alloc _).grown hgr hr
    have hbw2 : Below W8.heap.size W8 w2 := (hbW.alloc hbW.size _).grown hgr (by have := hbW.size; simp; omega) (fun g e => by injection e with e; omega)
    have bv2 := (Box.new W #[.bool (Wh (tl a (b - a) n j)).neg, .slice px lx cx, .slice py ly cy] 26).grown hgr (by intro e; injection e with e; omega)
    obtain ⟨v0, v1, v2⟩ := bv2.cells3
    have hf2 : w2.cell? ⟨w6.heap.size, 0, none⟩ = some (.func (.func 64) #[] #[.pointer (some ⟨D, 0, none⟩), .pointer (some ⟨S, 0, none⟩), .pointer (some ⟨N, 0, none⟩), .pointer (some ⟨B, 0, none⟩)]) := (BF8.out.after hbw2).cell 0
    have HV2 := Lib.hid hv2
    have HB2 := Lib.hid hbw2
    clear hv2 bv2 hgr htag hv hbW hr
    obtain ⟨D', S', N', B', va', vb', e2', e9', e10', hfe, q1', q2', q3', q4', q5', q6'⟩ := (HAb8.out.after hbw2)
    obtain ⟨rfl, rfl, rfl, rfl⟩ : D = D' ∧ S = S' ∧ N = N' ∧ B = B' := by simpa using hfe
    have hcon := Lib.hid (above1_t w2 _ va' vb' D S N B (tl a (b - a) n j) x y ((a + (b - a)) ^ n) n e2' e9' e10' HV2.out q1' q2' q3' q4' q5' q6' HOK.out (HT1.out j) HA1.out HA2.out)
    clear hfe q1' q2' q3' q4' q5' q6' hbw2
    by_cases habv : Abv n a (b - a) x y j
    · gi_wp2
      refine ⟨trivial, (CallsIn.inRound l (callsIn_wide.2 hcon.out)).mono ?_⟩
      intro e w3 hr
      obtain ⟨rfl, hb3⟩ := hr.yes habv
      have hbx3 := HB2.out.trans (hb3.mono HB2.out.size)
      have BR3 := BR8.out.after hbx3
      have BE3 := BE8.out.after hbx3
      have r0 : w3.cell? ⟨w.heap.size + 1 + 1, 0, none⟩ = some (.int .i64 0) := BR3.cell 0
      have r1 := BR3.frozen 0
      have r2 : w3.cell? ⟨w.heap.size + 1 + 1 + 1, 0, none⟩ = some (.int .i64 0) := BE3.cell 0
      have r3 := BE3.frozen 0
      have HBR3 := Lib.hid BR3
      have HBE3 := Lib.hid BE3
      have HBX3 := Lib.hid (HB8.out.trans (hbx3.mono HB8.out.size))
      have HSZ := Lib.hid hb3.size
      have HBL := Lib.hid hb3
      have HABV := Lib.hid habv
      have hj64 : j ≤ 64 := Nat.le_trans hj HN.out
      clear hb3 hbx3 BR3 BE3 habv hr
      gi_wp2
      refine ⟨⟨HABV.out, ?_, ?_, ?_⟩, ?_, ?_⟩
      · have := (HBR3.out.set 0 (.int .i64 ((j : Int) + 1))).far (p := ⟨w.heap.size + 1 + 1 + 1, 0, none⟩) (by simp) (.int .i64 0)
        simpa using this
      · have := (HBE3.out.far (p := ⟨w.heap.size + 1 + 1, 0, none⟩) (by simp) (.int .i64 ((j : Int) + 1))).set 0 (.int .i64 0)
        simpa using this
      · exact (HBX3.out.setCell (p := ⟨w.heap.size + 1 + 1, 0, none⟩) (by simp; omega) _).setCell (p := ⟨w.heap.size + 1 + 1 + 1, 0, none⟩) (by simp; omega) _
      · have := HSZ.out
        simpa [World.setCell] using this
      · intro b' h1 h2
        exact (Below.heap_setCell _ ⟨w.heap.size + 1 + 1 + 1, 0, none⟩ _ _ (by simp; omega)).trans ((Below.heap_setCell _ ⟨w.heap.size + 1 + 1, 0, none⟩ _ _ (by simp; omega)).trans (HBL.out.block b' h2))
    · gi_wp2
      refine ⟨trivial, (CallsIn.inRound l (callsIn_wide.2 hcon.out)).mono ?_⟩
      intro e w3 hr
      obtain ⟨rfl, hb3⟩ := hr.no habv
      have HABV := Lib.hid habv
      have HB3 := Lib.hid hb3
      clear hb3 hr
      gi_wp2
      exact ⟨habv, HB3.out⟩
  case done =>
    intro W hb hC hK
    have hDl := (Array.getElem?_eq_some_iff.1 hK).1
    have br := BR8.out.after hb
    have be := BE8.out.after hb
    have r0 : W.cell? ⟨w.heap.size + 1 + 1, 0, none⟩ = some (.int .i64 0) := br.cell 0
    have r1 := br.frozen 0
    have r2 : W.cell? ⟨w.heap.size + 1 + 1 + 1, 0, none⟩ = some (.int .i64 0) := be.cell 0
    have r3 := be.frozen 0
    have HBW := Lib.hid (HB8.out.trans (hb.mono HB8.out.size))
    have HBR := Lib.hid br
    have HBE := Lib.hid be
    have HK := Lib.hid hK
    clear hb br be hK
    go_wp2_with fail
    have hK4 : ((W.setCell ⟨w.heap.size + 1 + 1, 0, none⟩ (.int .i64 0)).setCell ⟨w.heap.size + 1 + 1 + 1, 0, none⟩ (.int .i64 0)).heap[W8.heap.size]? = some (.deferred (some [])) :=
      (Below.heap_setCell _ ⟨w.heap.size + 1 + 1 + 1, 0, none⟩ _ _ (by simp; omega)).trans ((Below.heap_setCell _ ⟨w.heap.size + 1 + 1, 0, none⟩ _ _ (by simp; omega)).trans HK.out)
    refine ⟨by simp, .inl ⟨_, _, rfl, run_takeDeferred hK4, ?_⟩⟩
    have b1 : Box ((W.setCell ⟨w.heap.size + 1 + 1, 0, none⟩ (.int .i64 0)).setCell ⟨w.heap.size + 1 + 1 + 1, 0, none⟩ (.int .i64 0)) (w.heap.size + 1 + 1) #[.int .i64 0] 3 := by
      have := (HBR.out.set 0 (.int .i64 0)).far (p := ⟨w.heap.size + 1 + 1 + 1, 0, none⟩) (by simp) (.int .i64 0)
      simpa using this
    have b2 : Box ((W.setCell ⟨w.heap.size + 1 + 1, 0, none⟩ (.int .i64 0)).setCell ⟨w.heap.size + 1 + 1 + 1, 0, none⟩ (.int .i64 0)) (w.heap.size + 1 + 1 + 1) #[.int .i64 0] 31 := by
      have := (HBE.out.far (p := ⟨w.heap.size + 1 + 1, 0, none⟩) (by simp) (.int .i64 0)).set 0 (.int .i64 0)
      simpa using this
    have b3 : Below w.heap.size w ((W.setCell ⟨w.heap.size + 1 + 1, 0, none⟩ (.int .i64 0)).setCell ⟨w.heap.size + 1 + 1 + 1, 0, none⟩ (.int .i64 0)) := (HBW.out.setCell (p := ⟨w.heap.size + 1 + 1, 0, none⟩) (by simp; omega) _).setCell (p := ⟨w.heap.size + 1 + 1 + 1, 0, none⟩) (by simp; omega) _
    obtain ⟨W4, hW4⟩ : ∃ W4, W4 = (W.setCell ⟨w.heap.size + 1 + 1, 0, none⟩ (.int .i64 0)).setCell ⟨w.heap.size + 1 + 1 + 1, 0, none⟩ (.int .i64 0) := ⟨_, rfl⟩
    rw [← hW4] at b1 b2 b3 hK4 ⊢
    clear hW4
    have c1 := b1.grown (putObj_grown W4 W8.heap.size (.deferred none)) (by intro e; injection e with e; omega)
    have c2 := b2.grown (putObj_grown W4 W8.heap.size (.deferred none)) (by intro e; injection e with e; omega)
    have c3 := b3.grown (putObj_grown W4 W8.heap.size (.deferred none)) b3.size (fun g e => by injection e with e; omega)
    obtain ⟨W5, hW5⟩ : ∃ W5, W5 = W4.putObj W8.heap.size (.deferred none) := ⟨_, rfl⟩
    rw [← hW5] at c1 c2 c3 ⊢
    clear hW5
    have e0 : W5.cell? ⟨w.heap.size + 1 + 1, 0, none⟩ = some (.int .i64 0) := c1.cell 0
    have e1 : W5.cell? ⟨w.heap.size + 1 + 1 + 1, 0, none⟩ = some (.int .i64 0) := c2.cell 0
    refine ⟨.tuple #[.int .i64 0, .int .i64 0], by simp [results, Try.results25, go_sem, e0, e1], ?_⟩
    exact ⟨0, rfl, .inr ⟨hC, rfl⟩, c3⟩
  case stop =>
    rintro l j W3 W hj hC ⟨hav, hbr, hbe, hbx⟩ hl hgr htag hK
    have b1 := hbr.grown hgr (by intro e; injection e with e; omega)
    have b2 := hbe.grown hgr (by intro e; injection e with e; omega)
    have b3 := hbx.grown hgr hbx.size (fun g e => by injection e with e; omega)
    have c1 := b1.grown (putObj_grown W W8.heap.size (.deferred none)) (by intro e; injection e with e; omega)
    have c2 := b2.grown (putObj_grown W W8.heap.size (.deferred none)) (by intro e; injection e with e; omega)
    have c3 := b3.grown (putObj_grown W W8.heap.size (.deferred none)) b3.size (fun g e => by injection e with e; omega)
    have HAV := Lib.hid hav
    have HCC := Lib.hid hC
    clear hbr hbe hbx hgr htag b1 b2 b3 hav hC
    gi_wp2
    refine ⟨by simp, .inl ⟨_, _, rfl, run_takeDeferred hK, ?_⟩⟩
    obtain ⟨W5, hW5⟩ : ∃ W5, W5 = W.putObj W8.heap.size (.deferred none) := ⟨_, rfl⟩
    rw [← hW5] at c1 c2 c3 ⊢
    clear hW5
    have e0 : W5.cell? ⟨w.heap.size + 1 + 1, 0, none⟩ = some (.int .i64 ((j : Int) + 1)) := c1.cell 0
    have e1 : W5.cell? ⟨w.heap.size + 1 + 1 + 1, 0, none⟩ = some (.int .i64 0) := c2.cell 0
    refine ⟨.tuple #[.int .i64 ((j : Int) + 1), .int .i64 0], by simp [results, Try.results25, go_sem, e0, e1], ?_⟩
    exact ⟨j + 1, rfl, .inl ⟨j, hj, HAV.out, HCC.out, rfl⟩, c3⟩
end Go.Proofs.Ytebmegodeglobaa

namespace Go.Proofs.Ytebmegodeglobaa
open Go.RowKit

set_option maxRecDepth 100000 in
set_option maxHeartbeats 4000000 in
theorem tCritical_bad (w : World) (n : Int) (X Y : F) (v u : Value) (h : IsF w v X) (k : IsF w u Y) (hno : checkE X (trialsB n 0 0) ≠ 0 ∨ fracE Y ≠ 0) :
    Calls Try.prog 25 #[.int .i64 n, v, u] w fun e w' => e = .returned (.tuple #[.int .i64 0, .int .i64 (if checkE X (trialsB n 0 0) = 1 ∨ fracE Y = 1 then 1 else 2)]) ∧ Below w.heap.size w w' := by
  obtain ⟨e, he⟩ : ∃ e, checkE X (trialsB n 0 0) = e := ⟨_, rfl⟩
  obtain ⟨f, hf⟩ : ∃ f, fracE Y = f := ⟨_, rfl⟩
  have ce := checkE_cases X (trialsB n 0 0)
  have cf := fracE_cases Y
  rw [he] at hno ce
  rw [hf] at hno cf
  have HC' := Lib.hid he
  have HF' := Lib.hid hf
  have hres : Hid ((if checkE X (trialsB n 0 0) = 1 ∨ fracE Y = 1 then (1 : Int) else 2) = if e = 1 ∨ f = 1 then 1 else 2) := by show _ = _; rw [he, hf]
  rw [hres.out]
  clear he hf
  have HX := h
  have HY := k
  obtain ⟨va, vb, rfl, h1, h2⟩ := h
  obtain ⟨vc, vd, rfl, k1, k2⟩ := k
  obtain ⟨p, cp, rfl, _, _⟩ := h1.shape
  obtain ⟨q, cq, rfl, _, _⟩ := h2.shape
  obtain ⟨p', cp', rfl, _, _⟩ := k1.shape
  obtain ⟨q', cq', rfl, _, _⟩ := k2.shape
  obtain ⟨W0, hW, bP, bB, bR, bE, hsz, hb0'⟩ : ∃ W0, W0 = (((w.alloc (.cells #[.bool X.neg, .slice p X.num.length cp, .slice q X.den.length cq] 26)).alloc (.cells #[.bool Y.neg, .slice p' Y.num.length cp', .slice q' Y.den.length cq'] 26)).alloc (.cells #[.int .i64 0] 3)).alloc (.cells #[.int .i64 0] 31) ∧
      Box W0 w.heap.size #[.bool X.neg, .slice p X.num.length cp, .slice q X.den.length cq] 26 ∧ Box W0 (w.heap.size + 1) #[.bool Y.neg, .slice p' Y.num.length cp', .slice q' Y.den.length cq'] 26 ∧ Box W0 (w.heap.size + 1 + 1) #[.int .i64 0] 3 ∧ Box W0 (w.heap.size + 1 + 1 + 1) #[.int .i64 0] 31 ∧ W0.heap.size = w.heap.size + 4 ∧ Below w.heap.size w W0 :=
    ⟨_, rfl, fourA rfl, fourB rfl, fourC rfl, fourD rfl, by simp, held_alloc (held_alloc (held_alloc (held_alloc (Below.refl _ w))))⟩
  obtain ⟨c0, c1, c2⟩ := bP.cells3
  obtain ⟨d0, d1, d2⟩ := bB.cells3
  have HP := Lib.hid (HX.after hb0')
  have HBd := Lib.hid (HY.after hb0')
  have HB0 := Lib.hid hb0'
  have BP := Lib.hid bP
  have BB := Lib.hid bB
  have BR := Lib.hid bR
  have BE := Lib.hid bE
  have mkS : Hid (∀ w', Below W0.heap.size W0 w' → w'.cell? ⟨w.heap.size, 0, none⟩ = some (.bool X.neg) ∧ w'.cell? ⟨w.heap.size, 1, none⟩ = some (.slice p X.num.length cp) ∧ w'.cell? ⟨w.heap.size, 2, none⟩ = some (.slice q X.den.length cq) ∧
      w'.cell? ⟨w.heap.size + 1, 0, none⟩ = some (.bool Y.neg) ∧ w'.cell? ⟨w.heap.size + 1, 1, none⟩ = some (.slice p' Y.num.length cp') ∧ w'.cell? ⟨w.heap.size + 1, 2, none⟩ = some (.slice q' Y.den.length cq')) :=
    fun w' hb => ⟨keep_cell hb c0, keep_cell hb c1, keep_cell hb c2, keep_cell hb d0, keep_cell hb d1, keep_cell hb d2⟩
  clear HX HY h1 h2 k1 k2 bP bB bR bE hb0' c0 c1 c2 d0 d1 d2
  rcases ce with rfl | rfl | rfl <;> rcases cf with rfl | rfl | rfl <;> try (exfalso; simp at hno; done)
  all_goals
    clear hno
    go_enter Try.func25, Try.ntmps25
    go_upto_region 1 with fail
    rw [← hW]
    clear hW
    go_region_held3 (fun w' => w'.cell? ⟨w.heap.size, 0, none⟩ = some (.bool X.neg) ∧ w'.cell? ⟨w.heap.size, 1, none⟩ = some (.slice p X.num.length cp) ∧ w'.cell? ⟨w.heap.size, 2, none⟩ = some (.slice q X.den.length cq) ∧
        w'.cell? ⟨w.heap.size + 1, 0, none⟩ = some (.bool Y.neg) ∧ w'.cell? ⟨w.heap.size + 1, 1, none⟩ = some (.slice p' Y.num.length cp') ∧ w'.cell? ⟨w.heap.size + 1, 2, none⟩ = some (.slice q' Y.den.length cq'))
      (first | (refine mkS.out _ ?_; (repeat (first | with_reducible exact hk3 | with_reducible exact hk2 | with_reducible exact Below.refl _ _ | with_reducible refine below_dr ?_)); done))
      (first
       | (go_at_call 32; refine (ttrials_c _ _ _ _).mono ?_; rintro e w' ⟨rfl, rfl⟩)
       | (go_at_call 31; refine (checked_c _ _ X _ ?_).mono ?_; exact HP.out.after (below_dr (Below.refl _ W0)); rw [HC'.out]; rintro e w2 ⟨rfl, hb2⟩; have hk2 := below_of_drew hb2)
       | (go_at_call 41; refine (fraction_c _ _ Y ?_).mono ?_; exact HBd.out.after hk2; rw [HF'.out]; rintro e w3 ⟨rfl, hb3⟩; have hk3 := hk2.trans (hb3.mono hk2.size)))
    have br := BR.out.after hk3
    have be := BE.out.after hk3
    have r0 : w3.cell? ⟨w.heap.size + 1 + 1, 0, none⟩ = some (.int .i64 0) := br.cell 0
    have r1 := br.frozen 0
    have r2 : w3.cell? ⟨w.heap.size + 1 + 1 + 1, 0, none⟩ = some (.int .i64 0) := be.cell 0
    have r3 := be.frozen 0
    have HBW := Lib.hid (HB0.out.trans (hk3.mono HB0.out.size))
    clear br be hk2 hk3 hb2 hb3 mkS
    go_wp2_with fail
    have hfin := (HBW.out.setCell (p := ⟨w.heap.size + 1 + 1, 0, none⟩) (by simp; omega) (.int .i64 0))
    first
      | (refine bodyPost_ret (v := .tuple #[.int .i64 0, .int .i64 1]) ?_ rfl ⟨rfl, hfin.setCell (p := ⟨w.heap.size + 1 + 1 + 1, 0, none⟩) ?_ _⟩
         · simp [results, Try.results25, go_sem, r0, r2]
         · simp; omega)
      | (refine bodyPost_ret (v := .tuple #[.int .i64 0, .int .i64 2]) ?_ rfl ⟨rfl, hfin.setCell (p := ⟨w.heap.size + 1 + 1 + 1, 0, none⟩) ?_ _⟩
         · simp [results, Try.results25, go_sem, r0, r2]
         · simp; omega)

/-- What Critical returns: the least number of failures, or an error. -/
def critF (n : Int) (p b : F) (r : Int × Int) : Prop :=
  if checkE p (trialsB n 0 0) = 0 ∧ fracE b = 0 then ∃ m : Nat, r = ((m : Int), 0) ∧ CritR n.toNat (val p.num) (val p.den - val p.num) (val b.num) (val b.den) m
  else r = (0, if checkE p (trialsB n 0 0) = 1 ∨ fracE b = 1 then 1 else 2)
theorem frac_fr {x : F} (h : fracE x = 0) : ∃ a b, x = fr false a b ∧ Ok false a b ∧ a ≤ b ∧ val x.num = a ∧ val x.den = b := by
  obtain ⟨hv, hn, hle⟩ := fracE_zero h
  have he := hv.eq
  have hk := hv.2.2
  rw [hn] at he hk
  exact ⟨_, _, he, hk, hle, rfl, rfl⟩
theorem tCritical_c (w : World) (n : Int) (v u : Value) (X Y : F) (h : IsF w v X) (k : IsF w u Y) :
    Calls Try.prog 25 #[.int .i64 n, v, u] w fun e w' => ∃ r : Int × Int, e = .returned (.tuple #[.int .i64 r.1, .int .i64 r.2]) ∧ critF n X Y r ∧ Below w.heap.size w w' := by
  by_cases hc : checkE X (trialsB n 0 0) = 0 ∧ fracE Y = 0
  · obtain ⟨hr, ht⟩ := checkE_zero hc.1
    obtain ⟨a, b, rfl, hab, hb0, hb1, ea, eb⟩ := rate_fr hr
    obtain ⟨x, y, rfl, hok, hxy, ex', ey⟩ := frac_fr hc.2
    obtain ⟨t1, t2, t3, t4⟩ := trialsB_iff.1 ht
    obtain ⟨N, rfl⟩ : ∃ N : Nat, n = N := ⟨n.toNat, by omega⟩
    refine (tCritical_good w N a b x y v u h k (by omega) hab hb0 hb1 hok hc.1 hc.2).mono ?_
    rintro e w' ⟨m, rfl, hm, hb⟩
    refine ⟨((m : Int), 0), rfl, ?_, hb⟩
    unfold critF
    rw [if_pos hc, ea, eb, ex', ey]
    exact ⟨m, rfl, by simpa using hm⟩
  · refine (tCritical_bad w n X Y v u h k ?_).mono ?_
    · by_cases h1 : checkE X (trialsB n 0 0) = 0
      · exact .inr (fun h2 => hc ⟨h1, h2⟩)
      · exact .inl h1
    rintro e w' ⟨rfl, hb⟩
    refine ⟨(0, if checkE X (trialsB n 0 0) = 1 ∨ fracE Y = 1 then 1 else 2), rfl, ?_, hb⟩
    unfold critF
    rw [if_neg hc]
end Go.Proofs.Ytebmegodeglobaa

namespace Go.Proofs.Ytebmegodeglobaa
open Go.RowKit

theorem ex_drew {w w1 : World} {n : Nat} (h : ∃ k, w1 = w.drewN k) : ∃ k, w1.drewN n = w.drewN k := by
  obtain ⟨k, rfl⟩ := h
  exact ⟨_, World.drewN_drewN _ _ _⟩

set_option maxHeartbeats 400000 in
theorem rtrim_some (b off n cap : Nat) (l : List Nat) (w : World) (hn : n ≤ cap) (hcap : cap ≤ 9223372036854775807)
    (hc : ∀ i, i < n → w.cell? ⟨b, off + i, none⟩ = some (.int .u32 ((lim l i : Nat) : Int))) :
    Calls Try.prog 47 #[.slice (some ⟨b, off, none⟩) n cap] w fun e w' => e = .returned (.slice (some ⟨b, off, none⟩) (tlen (fun i => lim l i) n) cap) ∧ w = w' := by
  go_enter Try.func47, Try.ntmps47
  go_wp2
  go_loop [0] (fun t => ∃ k : Nat, k ≤ n ∧ t = .slice (some ⟨b, off, none⟩) k cap ∧ Hid (tlen (fun i => lim l i) n = tlen (fun i => lim l i) k)) (fun t => match t with | .slice _ k _ => k | _ => 0)
  case atStart => exact ⟨n, Nat.le_refl _, rfl, rfl⟩
  case round =>
    obtain ⟨k, hk, rfl, hrel⟩ := hrel
    have hck : 0 < k → w.cell? ⟨b, off + (k - 1), none⟩ = some (.int .u32 ((lim l (k - 1) : Nat) : Int)) := fun _ => hc (k - 1) (by omega)
    clear hc
    go_wp2
    · go_round
      case rel => exact ⟨k - 1, by omega, rfl, hrel.out.trans (tlen_skip (by omega) (by simp_all))⟩
      case measure => simp; omega
    · go_ret
      exact ⟨by rw [hrel.out, tlen_stop (.inl (by simp_all))]; rfl, rfl⟩
    · go_ret
      exact ⟨by rw [hrel.out, tlen_stop (.inr (by omega))]; rfl, rfl⟩

theorem rtrim_c (w : World) (v : Value) (l : List Nat) (h : Sl w v l) :
    Calls Try.prog 47 #[v] w fun e w' => (∃ a cap, v = .slice a l.length cap ∧ e = .returned (.slice a (limbs (val l)).length cap) ∧ Sl w (.slice a (limbs (val l)).length cap) (limbs (val l))) ∧ w = w' := by
  obtain ⟨h0, a, cap, rfl, h2, h3, h5, h6⟩ := h
  have hs : Sl w (.slice a l.length cap) l := ⟨h0, a, cap, rfl, h2, h3, h5, h6⟩
  have hf := hs.front (limbs (val l)).length (limbs_len_le h0)
  rw [take_limbs h0] at hf
  rcases Nat.eq_zero_or_pos l.length with hl | hl
  · have hl' : l = [] := List.length_eq_zero_iff.1 hl
    subst hl'
    have e0 : (limbs (val [])).length = 0 := by simp [val, limbs_zero]
    refine Calls.mono (R := fun e w' => e = .returned (.slice a 0 cap) ∧ w = w') ?_ (fun e w' h => ⟨⟨a, cap, rfl, by rw [e0]; exact h.1, hf⟩, h.2⟩)
    clear hf hs h6 h0 e0
    go_enter Try.func47, Try.ntmps47
    go_wp2
    refine wp_loop_once ?_
    go_wp2
    go_ret
    exact ⟨rfl, rfl⟩
  · obtain ⟨b, off, rfl, hlt, hc⟩ := h6 hl
    refine (rtrim_some b off l.length cap l w h2 h3 hc).mono ?_
    rintro e w' ⟨rfl, rfl⟩
    have := tlen_val h0
    exact ⟨⟨_, cap, rfl, by rw [this], hf⟩, rfl⟩

set_option maxHeartbeats 400000 in
theorem From_c (n : Nat) (hn : n < 18446744073709551616) (w : World) :
    Calls Try.prog 29 #[.int .u64 (n : Int)] w (RetNat w n) := by
  go_enter Try.func29, Try.ntmps29
  go_wp2_with fail
  have hr := Row32.lit2 w (n % 4294967296) (n / 4294967296) ((n : Int) % 4294967296) ((n : Int) / 4294967296) (by omega) (by omega)
  have hs := Sl.of_row (cap := 2) hr (Lb.cons (by omega) (Lb.cons (by omega) Lb.nil)) (by simp) (by omega)
  have hv : val [n % 4294967296, n / 4294967296] = n := by simp only [val]; omega
  refine (rtrim_c _ _ _ hs).mono ?_
  rw [hv]
  rintro e w' ⟨⟨a, cap, _, rfl, hs'⟩, rfl⟩
  clear hs hv hr
  have HS := Lib.hid hs'
  clear hs'
  go_wp2_with fail
  go_ret
  exact ⟨_, rfl, HS.out, (Below.refl _ w).alloc (Nat.le_refl _) _⟩
theorem From_i (z : Int) (n : Nat) (hz : z = n) (hn : n < 18446744073709551616) (w : World) :
    Calls Try.prog 29 #[.int .u64 z] w (RetNat w n) := by
  subst hz; exact From_c n hn w

/-- A list of limbs is its number's own just where it is empty or its last limb is not 0. -/
theorem canon_iff {l : List Nat} (h : Lb l) : Canon l ↔ l.length = 0 ∨ lim l (l.length - 1) ≠ 0 := by
  constructor
  · intro hc
    rcases Nat.eq_zero_or_pos (val l) with h0 | h0
    · left; unfold Canon at hc; rw [hc, h0, limbs_zero]; rfl
    · right
      have := limbs_last h0
      unfold Canon at hc
      rw [← hc] at this; exact this
  · intro hc
    apply canon_of_len h
    rw [← tlen_val h]
    apply tlen_stop
    rcases hc with hc | hc
    · right; exact hc
    · left; exact hc

set_option maxHeartbeats 400000 in
theorem rcmp_far (a b : Option Addr) (n m c d : Nat) (w : World) (hn : n ≤ 9223372036854775807) (hm : m ≤ 9223372036854775807) (hne : n ≠ m) :
    Calls Try.prog 44 #[.slice a n c, .slice b m d] w fun e w' => e = .returned (.int .i64 (if n < m then -1 else 1)) ∧ w = w' := by
  by_cases hlt : n < m
  · rw [if_pos hlt]
    go_enter Try.func44, Try.ntmps44
    go_wp2
    go_ret
    exact ⟨rfl, rfl⟩
  · rw [if_neg hlt]
    go_enter Try.func44, Try.ntmps44
    go_wp2
    go_ret
    exact ⟨rfl, rfl⟩

set_option maxHeartbeats 400000 in
theorem rcmp_none (a b : Option Addr) (c d : Nat) (w : World) :
    Calls Try.prog 44 #[.slice a 0 c, .slice b 0 d] w fun e w' => e = .returned (.int .i64 0) ∧ w = w' := by
  go_enter Try.func44, Try.ntmps44
  go_wp2
  refine wp_loop_once ?_
  go_wp2
  go_ret
  exact ⟨rfl, rfl⟩

theorem cmpTop_lt' {l m : List Nat} {k : Nat} (h : lim l k < lim m k) : cmpTop l m (k + 1) = -1 := by rw [cmpTop, if_pos h]
theorem cmpTop_gt' {l m : List Nat} {k : Nat} (h : lim m k < lim l k) : cmpTop l m (k + 1) = 1 := by rw [cmpTop, if_neg (by omega), if_pos h]
theorem cmpTop_eq' {l m : List Nat} {k : Nat} (h : lim l k = lim m k) : cmpTop l m (k + 1) = cmpTop l m k := by rw [cmpTop, if_neg (by omega), if_neg (by omega)]

set_option maxRecDepth 100000 in
set_option maxHeartbeats 1000000 in
theorem rcmp_same (b off b' off' n c d : Nat) (l m : List Nat) (w : World) (hn : n ≤ 9223372036854775807) (hpos : 0 < n)
    (hc : ∀ i, i < n → w.cell? ⟨b, off + i, none⟩ = some (.int .u32 ((lim l i : Nat) : Int)))
    (hd : ∀ i, i < n → w.cell? ⟨b', off' + i, none⟩ = some (.int .u32 ((lim m i : Nat) : Int))) :
    Calls Try.prog 44 #[.slice (some ⟨b, off, none⟩) n c, .slice (some ⟨b', off', none⟩) n d] w
      fun e w' => e = .returned (.int .i64 (cmpTop l m n)) ∧ ∃ k, w' = w.drewN k := by
  go_enter Try.func44, Try.ntmps44
  go_wp2
  go_loopg [5] n (fun g t wr => g ≤ n ∧ t = .int .i64 ((g : Int) - 1) ∧ Hid (cmpTop l m n = cmpTop l m g) ∧ Hid (∃ q, wr = w.drewN q))
  case atStart => exact ⟨Nat.le_refl _, rfl, rfl, ⟨0, rfl⟩⟩
  case round =>
    obtain ⟨hk, rfl, hrel, hw⟩ := hrel
    obtain ⟨q, rfl⟩ := hw.out
    clear hw
    rcases Nat.eq_zero_or_pos gk with hz | hp
    · subst hz
      clear hc hd
      go_wp2
      go_ret
      refine ⟨?_, _, rfl⟩
      rw [hrel.out]; rfl
    · obtain ⟨k, rfl⟩ : ∃ k, gk = k + 1 := ⟨gk - 1, by omega⟩
      have em : ((k + 1 : Nat) : Int) - 1 = (k : Int) := by omega
      rw [em]
      have h1 : w.cell? ⟨b, off + k, none⟩ = some (.int .u32 ((lim l k : Nat) : Int)) := hc _ (by omega)
      have h2 : w.cell? ⟨b', off' + k, none⟩ = some (.int .u32 ((lim m k : Nat) : Int)) := hd _ (by omega)
      clear hc hd em
      have hz1 : (0 : Int) ≤ (k : Int) := by omega
      have hz2 : (k : Int) < n := by omega
      go_wp2
      go_quiet (fail)
      go_wp2
      · go_ret
        refine ⟨?_, ex_drew ⟨q, rfl⟩⟩
        rw [hrel.out, cmpTop_lt' (by assumption)]; rfl
      · go_quiet (fail)
        go_wp2
        · go_ret
          refine ⟨?_, ex_drew (ex_drew ⟨q, rfl⟩)⟩
          rw [hrel.out, cmpTop_gt' (by assumption)]; rfl
        · go_roundg k
          case measure => omega
          case rel => exact ⟨by omega, by go_num, hrel.out.trans (cmpTop_eq' (by omega)), ⟨_, rfl⟩⟩

/-- What the reference's Compare says of two lists. -/
def CmpS (a b : List Nat) (r : Int) : Prop :=
  (a.length < b.length → r = -1) ∧ (b.length < a.length → r = 1) ∧ (a.length = b.length → (val a < val b ∧ r = -1) ∨ (a = b ∧ r = 0) ∨ (val b < val a ∧ r = 1))
theorem Compare_c (w : World) (v u : Value) (l m : List Nat) (h : Sl w v l) (k : Sl w u m) :
    Calls Try.prog 44 #[v, u] w (RetI w (CmpS l m)) := by
  obtain ⟨h0, a, c, rfl, h2, h3, h5, h6⟩ := h
  obtain ⟨k0, b, d, rfl, k2, k3, k5, k6⟩ := k
  by_cases hlen : l.length = m.length
  · rcases Nat.eq_zero_or_pos l.length with hz | hp
    · have e1 : l = [] := List.length_eq_zero_iff.1 hz
      have e2 : m = [] := List.length_eq_zero_iff.1 (by omega)
      subst e1; subst e2
      refine (rcmp_none a b c d w).mono ?_
      rintro e w' ⟨rfl, rfl⟩
      exact ⟨0, rfl, ⟨fun h => by simp at h, fun h => by simp at h, fun _ => .inr (.inl ⟨rfl, rfl⟩)⟩, 0, rfl⟩
    · obtain ⟨b1, o1, rfl, _, hc⟩ := h6 hp
      obtain ⟨b2, o2, rfl, _, hd⟩ := k6 (by omega)
      rw [← hlen]
      refine (rcmp_same b1 o1 b2 o2 l.length c d l m w (by omega) hp hc (by rw [hlen]; exact hd)).mono ?_
      rintro e w' ⟨rfl, n, rfl⟩
      refine ⟨_, rfl, ⟨fun h => by omega, fun h => by omega, fun _ => ?_⟩, n, rfl⟩
      exact cmpTop_ext h0 k0 hlen l.length (Nat.le_refl _) (by rw [List.drop_of_length_le (Nat.le_refl _), List.drop_of_length_le (by omega)])
  · refine (rcmp_far a b l.length m.length c d w (by omega) (by omega) hlen).mono ?_
    rintro e w' ⟨rfl, rfl⟩
    exact ⟨_, rfl, ⟨fun h => if_pos h, fun h => if_neg (by omega), fun h => absurd h hlen⟩, 0, rfl⟩

/-- SameNat: are the limbs the same? -/
theorem SameNat_c (w : World) (v u : Value) (l m : List Nat) (h : Sl w v l) (k : Sl w u m) :
    Calls Try.prog 26 #[v, u] w (RetB w (l = m)) := by
  have HS := Lib.hid h
  have KS := Lib.hid k
  obtain ⟨h0, a, c, rfl, h2, h3, h5, h6⟩ := h
  obtain ⟨k0, b, d, rfl, k2, k3, k5, k6⟩ := k
  clear h5 h6 k5 k6
  by_cases hlen : l.length = m.length
  · have HL := Lib.hid hlen
    have hbe : ((l.length : Int) == (m.length : Int)) = true := by rw [beq_iff_eq]; omega
    clear hlen
    go_enter Try.func26, Try.ntmps26
    go_wp2_with fail
    refine (Compare_c _ _ _ _ _ HS.out KS.out).mono ?_
    rintro e w' ⟨r, rfl, hr, n, rfl⟩
    have HR := Lib.hid hr
    clear hr
    go_wp2_with fail
    go_ret
    refine ⟨_, rfl, ?_, n, rfl⟩
    simp only [beq_iff_eq]
    rcases HR.out.2.2 HL.out with ⟨h1, h2⟩ | ⟨h1, h2⟩ | ⟨h1, h2⟩
    · constructor
      · intro h; omega
      · intro h; subst h; omega
    · exact ⟨fun _ => h1, fun _ => h2⟩
    · constructor
      · intro h; omega
      · intro h; subst h; omega
  · have hbe : ((l.length : Int) == (m.length : Int)) = false := by rw [beq_eq_false_iff_ne]; omega
    have HL := Lib.hid hlen
    clear hlen
    go_enter Try.func26, Try.ntmps26
    go_wp2_with fail
    go_ret
    exact ⟨false, rfl, by simp only [Bool.false_eq_true, false_iff]; intro h; subst h; exact HL.out rfl, 0, rfl⟩
end Go.Proofs.Ytebmegodeglobaa
