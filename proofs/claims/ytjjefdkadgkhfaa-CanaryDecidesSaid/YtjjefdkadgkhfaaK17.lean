/- Walks of package tails: Critical.
   Walks of package tails: Critical, where it is refused; Critical.
   Walks of the reference's tails: trials, power, Between, Bound, Rate.
   Walks of the reference's tails: Between, Bound, Rate.
   Walks of the reference's tails: Rate.
   Walks of the reference's tails: choose.
   Walks of the reference's tails: Choose, numerator, tail. -/
import Derived.Test.YtjjefdkadgkhfaaK15
import Derived.Test.YtjjefdkadgkhfaaK16
import Derived.Test.YtjjefdkadgkhfaaK12
import Derived.Test.YtjjefdkadgkhfaaK07
import Derived.Test.YtjjefdkadgkhfaaK11
import Derived.Test.YtjjefdkadgkhfaaK02
import Derived.Test.YtjjefdkadgkhfaaK14
set_option linter.unusedVariables false
namespace Go.Proofs.Ytjjefdkadgkhfaa
open Go.RowKit Go.Shelf
attribute [local go_sem] Oper.semAt_some

/-- The part at k is above the bound x / y. -/
def Abv (n a c x y k : Nat) : Prop := (a + c) ^ n * x < tl a c n k * y
/-- Where the tails come above the bound, from n down. -/
def CritR (n a c x y r : Nat) : Prop := (∃ k, k ≤ n ∧ Abv n a c x y k ∧ (∀ j, k < j → j ≤ n → ¬ Abv n a c x y j) ∧ r = k + 1) ∨ ((∀ j, j ≤ n → ¬ Abv n a c x y j) ∧ r = 0)
set_option maxRecDepth 100000 in
set_option maxHeartbeats 4000000 in
theorem tCritical_good (w : World) (n a b x y : Nat) (v u : Value) (h : IsF w v (fr false a b)) (k : IsF w u (fr false x y)) (hn : n ≤ 64) (hab : a ≤ b) (hb0 : 0 < b) (hb1 : b ≤ 1000) (hok : Ok false x y)
    (hc : checkE (fr false a b) (trialsB (n : Int) 0 0) = 0) (hf : fracE (fr false x y) = 0) :
    Calls Try.prog 43 #[.int .i64 (n : Int), v, u] w fun e w' => ∃ m : Nat, e = .returned (.tuple #[.int .i64 (m : Int), .int .i64 0]) ∧ CritR n a (b - a) x y m ∧ Below w.heap.size w w' := by
  have HX := h
  have HY := k
  obtain ⟨va, vb, rfl, h1, h2⟩ := h
  obtain ⟨vc, vd, rfl, k1, k2⟩ := k
  obtain ⟨p, cp, rfl, _, _⟩ := h1.shape
  obtain ⟨q, cq, rfl, _, _⟩ := h2.shape
  obtain ⟨p', cp', rfl, _, _⟩ := k1.shape
  obtain ⟨q', cq', rfl, _, _⟩ := k2.shape
  obtain ⟨W0, hW, bP, bB, bR, bE, hsz, hb0'⟩ : ∃ W0, W0 = (((w.alloc (.cells #[.bool (fr false a b).neg, .slice p (fr false a b).num.length cp, .slice q (fr false a b).den.length cq] 30)).alloc (.cells #[.bool (fr false x y).neg, .slice p' (fr false x y).num.length cp', .slice q' (fr false x y).den.length cq'] 30)).alloc (.cells #[.int .i64 0] 3)).alloc (.cells #[.int .i64 0] 35) ∧
      Box W0 w.heap.size #[.bool (fr false a b).neg, .slice p (fr false a b).num.length cp, .slice q (fr false a b).den.length cq] 30 ∧ Box W0 (w.heap.size + 1) #[.bool (fr false x y).neg, .slice p' (fr false x y).num.length cp', .slice q' (fr false x y).den.length cq'] 30 ∧ Box W0 (w.heap.size + 1 + 1) #[.int .i64 0] 3 ∧ Box W0 (w.heap.size + 1 + 1 + 1) #[.int .i64 0] 35 ∧ W0.heap.size = w.heap.size + 4 ∧ Below w.heap.size w W0 :=
    ⟨_, rfl, fourA rfl, fourB rfl, fourC rfl, fourD rfl, by simp, held_alloc (held_alloc (held_alloc (held_alloc (Below.refl _ w))))⟩
  obtain ⟨c0, c1, c2⟩ := bP.cells3
  obtain ⟨d0, d1, d2⟩ := bB.cells3
  have HP := Lib.hid (HX.after hb0')
  have HBd := Lib.hid (HY.after hb0')
  have HB0 := Lib.hid hb0'
  have BP := Lib.hid bP
  have BB := Lib.hid bB
  have BR := Lib.hid bR
  have BE := Lib.hid bE
  have HC := Lib.hid hc
  have HF := Lib.hid hf
  have mkS : Hid (∀ w', Below W0.heap.size W0 w' → w'.cell? ⟨w.heap.size, 0, none⟩ = some (.bool (fr false a b).neg) ∧ w'.cell? ⟨w.heap.size, 1, none⟩ = some (.slice p (fr false a b).num.length cp) ∧ w'.cell? ⟨w.heap.size, 2, none⟩ = some (.slice q (fr false a b).den.length cq) ∧
      w'.cell? ⟨w.heap.size + 1, 0, none⟩ = some (.bool (fr false x y).neg) ∧ w'.cell? ⟨w.heap.size + 1, 1, none⟩ = some (.slice p' (fr false x y).num.length cp') ∧ w'.cell? ⟨w.heap.size + 1, 2, none⟩ = some (.slice q' (fr false x y).den.length cq')) :=
    fun w' hb => ⟨keep_cell hb c0, keep_cell hb c1, keep_cell hb c2, keep_cell hb d0, keep_cell hb d1, keep_cell hb d2⟩
  have HN := Lib.hid hn
  have HAB := Lib.hid hab
  have HPB := Lib.hid hb0
  have HB1 := Lib.hid hb1
  clear HX HY h1 h2 k1 k2 bP bB bR bE hb0' c0 c1 c2 d0 d1 d2 hc hf
  refine callsIn_wide (n := 6).1 (callsIn_of_wp_marks Try.func43 rfl trivial (wpIn_wide.2 ?_) rfl)
  simp only [Try.ntmps43, List.size_toArray, List.length_cons, List.length_nil, Nat.reduceAdd, Nat.reduceSub, Array.replicate_succ, Array.replicate_zero, List.push_toArray, List.append_toArray, List.nil_append, List.cons_append]
  go_upto_region 1 with fail
  rw [← hW]
  clear hW
  go_region_held3 (fun w' => w'.cell? ⟨w.heap.size, 0, none⟩ = some (.bool (fr false a b).neg) ∧ w'.cell? ⟨w.heap.size, 1, none⟩ = some (.slice p (fr false a b).num.length cp) ∧ w'.cell? ⟨w.heap.size, 2, none⟩ = some (.slice q (fr false a b).den.length cq) ∧
      w'.cell? ⟨w.heap.size + 1, 0, none⟩ = some (.bool (fr false x y).neg) ∧ w'.cell? ⟨w.heap.size + 1, 1, none⟩ = some (.slice p' (fr false x y).num.length cp') ∧ w'.cell? ⟨w.heap.size + 1, 2, none⟩ = some (.slice q' (fr false x y).den.length cq'))
    (first | (refine mkS.out _ ?_; (repeat (first | with_reducible exact hk3 | with_reducible exact hk2 | with_reducible exact Below.refl _ _ | with_reducible refine below_dr ?_)); done))
    (first
     | (go_at_call 45; refine (ttrials_c _ _ _ _).mono ?_; rintro e w' ⟨rfl, rfl⟩)
     | (go_at_call 44; refine (checked_c _ _ (fr false a b) _ ?_).mono ?_; exact HP.out.after (below_dr (Below.refl _ W0)); rw [HC.out]; rintro e w2 ⟨rfl, hb2⟩; have hk2 := below_of_drew hb2)
     | (go_at_call 65; refine (fraction_c _ _ (fr false x y) ?_).mono ?_; exact HBd.out.after hk2; rw [HF.out]; rintro e w3 ⟨rfl, hb3⟩; have hk3 := hk2.trans (hb3.mono hk2.size)))
  have HP3 := Lib.hid (HP.out.after hk3)
  have HBd3 := Lib.hid (HBd.out.after hk3)
  have HK3 := Lib.hid hk3
  obtain ⟨c0, c1, c2⟩ := (BP.out.after hk3).cells3
  clear hk2 hk3 hb2 hb3 mkS HP HBd
  go_wp2_with fail
  refine (spreadOf_t _ _ n a b HP3.out HAB.out HPB.out HB1.out HN.out).mono ?_
  rintro e w4 ⟨u4, rfl, hu4, hb4⟩
  obtain ⟨vi, vj, g2, g9, g10, rfl, hi1, hi2, hpart⟩ := hu4
  have hab' : a + (b - a) = b := by have := HAB.out; omega
  have hac : Hid (a + (b - a) ≤ 1000) := by show _ ≤ _; rw [hab']; exact HB1.out
  rw [hab'] at hi1
  obtain ⟨p1, cp1, rfl, _, _⟩ := hi1.shape
  obtain ⟨q1, cq1, rfl, _, _⟩ := hi2.shape
  obtain ⟨W5, hW5⟩ : ∃ W5, W5 = w4.alloc (.cells #[.int .i64 (n : Int), .bool false, .slice p1 (limbs (b ^ n)).length cp1, .slice q1 (limbs 1).length cq1, .func (.func 70) #[] #[.pointer (some ⟨g2, 0, none⟩), .pointer (some ⟨g9, 0, none⟩), .pointer (some ⟨g10, 0, none⟩)]] 93) := ⟨_, rfl⟩
  have hb5 : Below w4.heap.size w4 W5 := hW5 ▸ held_alloc (Below.refl _ w4)
  have bx5 : Box W5 w4.heap.size #[.int .i64 (n : Int), .bool false, .slice p1 (limbs (b ^ n)).length cp1, .slice q1 (limbs 1).length cq1, .func (.func 70) #[] #[.pointer (some ⟨g2, 0, none⟩), .pointer (some ⟨g9, 0, none⟩), .pointer (some ⟨g10, 0, none⟩)]] 93 := hW5 ▸ Box.new w4 _ _
  have hb45 := hb4.trans (hb5.mono hb4.size)
  have HK5 := Lib.hid (HK3.out.trans (hb45.mono HK3.out.size))
  have HSP5 := Lib.hid (show IsSp W5 (.agg #[.int .i64 (n : Int), .bool false, .slice p1 (limbs (b ^ n)).length cp1, .slice q1 (limbs 1).length cq1, .func (.func 70) #[] #[.pointer (some ⟨g2, 0, none⟩), .pointer (some ⟨g9, 0, none⟩), .pointer (some ⟨g10, 0, none⟩)]]) n a (b - a) from ⟨_, _, g2, g9, g10, rfl, by rw [hab']; exact hi1.after hb5, hi2.after hb5, hpart.after hb5⟩)
  have HBd5 := Lib.hid (HBd3.out.after hb45)
  have BX5 := Lib.hid bx5
  obtain ⟨s0, s1, s2, s3, s4⟩ := bx5.cells5
  obtain ⟨d0, d1, d2⟩ := (BB.out.after HK5.out).cells3
  clear hi1 hi2 hpart hb4 hb5 hb45 bx5 c0 c1 c2 HP3 HBd3
  go_upto_region 7 with fail
  rw [← hW5]
  clear hW5
  go_wp2_with fail
  refine (above_t _ _ _ n a (b - a) x y HSP5.out HBd5.out).mono ?_
  rintro e w6 ⟨f6, rfl, hf6, hb6⟩
  obtain ⟨D, S, N, B, va6, vb6, e2, e9, e10, rfl, hfacts⟩ := hf6
  have HAb := Lib.hid (show IsAb w6 (.func (.func 86) #[] #[.pointer (some ⟨D, 0, none⟩), .pointer (some ⟨S, 0, none⟩), .pointer (some ⟨N, 0, none⟩), .pointer (some ⟨B, 0, none⟩)]) n a (b - a) x y from ⟨D, S, N, B, va6, vb6, e2, e9, e10, rfl, hfacts⟩)
  obtain ⟨W7, hW7⟩ : ∃ W7, W7 = w6.alloc (.cells #[(.func (.func 86) #[] #[.pointer (some ⟨D, 0, none⟩), .pointer (some ⟨S, 0, none⟩), .pointer (some ⟨N, 0, none⟩), .pointer (some ⟨B, 0, none⟩)])] 95) := ⟨_, rfl⟩
  have hb7 : Below w6.heap.size w6 W7 := hW7 ▸ held_alloc (Below.refl _ w6)
  have bx7 : Box W7 w6.heap.size #[(.func (.func 86) #[] #[.pointer (some ⟨D, 0, none⟩), .pointer (some ⟨S, 0, none⟩), .pointer (some ⟨N, 0, none⟩), .pointer (some ⟨B, 0, none⟩)])] 95 := hW7 ▸ Box.new w6 _ _
  have hb67 := hb6.trans (hb7.mono hb6.size)
  have hz7 : w.heap.size + 4 ≤ w6.heap.size := by have := hb6.size; have := HK5.out.size; omega
  have HK7 := Lib.hid (HK5.out.trans (hb67.mono HK5.out.size))
  have HAb7 := Lib.hid (HAb.out.after hb7)
  have HSP7 := Lib.hid (HSP5.out.after hb67)
  have BX7 := Lib.hid bx7
  obtain ⟨s0, s1, s2, s3, s4⟩ := (BX5.out.after hb67).cells5
  clear hfacts HAb HSP5 BX5 hb6 hb7 hb67 bx7 d0 d1 d2 HBd5
  go_upto_region 8 with fail
  rw [← hW7]
  clear hW7
  go_wp2_with fail
  refine (down_t _ n g2 g9 g10 p1 q1 (limbs (b ^ n)).length (limbs 1).length cp1 cq1).mono ?_
  rintro e w' ⟨rfl, rfl⟩
  obtain ⟨W8, hW8⟩ : ∃ W8, W8 = W7.alloc (.cells (spCells n (.slice p1 (limbs (b ^ n)).length cp1) (.slice q1 (limbs 1).length cq1) g2 g9 g10) 93) := ⟨_, rfl⟩
  have hb8 : Below W7.heap.size W7 W8 := hW8 ▸ held_alloc (Below.refl _ W7)
  have bx8 : Box W8 W7.heap.size (spCells n (.slice p1 (limbs (b ^ n)).length cp1) (.slice q1 (limbs 1).length cq1) g2 g9 g10) 93 := hW8 ▸ Box.new W7 _ _
  have HK8 := Lib.hid (HK7.out.trans (hb8.mono HK7.out.size))
  have HAb8 := Lib.hid (HAb7.out.after hb8)
  have HSP8 := Lib.hid (HSP7.out.after hb8)
  have BX8 := Lib.hid bx8
  have BF8 := Lib.hid (BX7.out.after hb8)
  have BR8 := Lib.hid (BR.out.after HK8.out)
  have BE8 := Lib.hid (BE.out.after HK8.out)
  have HB8 := Lib.hid (HB0.out.trans (HK8.out.mono HB0.out.size))
  have hz8 : w.heap.size + 4 ≤ W8.heap.size := by have := HK8.out.size; omega
  have hz67 : w6.heap.size < W8.heap.size := (BX7.out.after hb8).lt
  rw [← hW8]
  clear hW8 hb8 bx8 s0 s1 s2 s3 s4 HK7 HAb7 HSP7 BX7
  go_wp2_with fail
  have HOK := Lib.hid hok
  have HA1 : Hid ((limbs ((a + (b - a)) ^ n)).length ≤ 32) := Nat.le_trans (pow_limbs hac.out HN.out) (by omega)
  have HA2 : Hid (0 < (a + (b - a)) ^ n) := Nat.pow_pos (by rw [hab']; exact HPB.out)
  have HT1 : Hid (∀ j, (limbs (tl a (b - a) n j)).length ≤ 32) := fun j => Nat.le_trans (limbs_len_mono (tl_all_le a (b - a) n j)) HA1.out
  obtain ⟨_, _, k2, k9, k10, hsp, _, _, hpart8⟩ := HSP8.out
  simp at hsp
  obtain ⟨_, _, rfl, rfl, rfl⟩ := hsp
  have HPart := Lib.hid hpart8
  clear hpart8 hab' hok
  refine (wpIn_wide (n := 6)).1 (wpIn_range_quiet (n := 6) rfl (by omega) (gf := 87) (lb := #[.pointer (some ⟨W7.heap.size, 0, none⟩)]) rfl trivial (enters_of Try.func87 (by kernel_rfl) rfl) rfl n
    (fun j v W => IsF W v (Wh (tl a (b - a) n j))) (fun j => ¬ Abv n a (b - a) x y j) (fun j W3 => Abv n a (b - a) x y j ∧ Box W3 (w.heap.size + 1 + 1) #[.int .i64 ((j : Int) + 1)] 3 ∧ Box W3 (w.heap.size + 1 + 1 + 1) #[.int .i64 0] 35 ∧ Below w.heap.size w W3)
    (fun l W2 Y hb hYY => callsIn_wide.2 (down1_t l (6 - 1 - 1) W2 W7.heap.size g2 g9 g10 n a (b - a) _ _ (BX8.out.after hb) (HPart.out.after hb) HN.out hac.out (fun j => ¬ Abv n a (b - a) x y j) Y hYY))
    (fun j v a1 W w1 => ∃ (px py : Option Addr) (lx cx ly cy : Nat), v = .agg #[.bool (Wh (tl a (b - a) n j)).neg, .slice px lx cx, .slice py ly cy] ∧ w1 = W.alloc (.cells #[.bool (Wh (tl a (b - a) n j)).neg, .slice px lx cx, .slice py ly cy] 30) ∧
      a1 = { tmps := #[Value.int IntKind.i64 (n : Int), Value.agg #[Value.bool (fr false a b).neg, Value.slice p (fr false a b).num.length cp, Value.slice q (fr false a b).den.length cq], Value.agg #[Value.bool (fr false x y).neg, Value.slice p' (fr false x y).num.length cp', Value.slice q' (fr false x y).den.length cq'], undef, Value.pointer (some { block := w.heap.size, off := 0 }), Value.pointer (some { block := w.heap.size + 1, off := 0 }), Value.pointer (some { block := w.heap.size + 1 + 1, off := 0 }), Value.pointer (some { block := w.heap.size + 1 + 1 + 1, off := 0 }), Value.int IntKind.i64 0, Value.int IntKind.i64 0, Value.pointer (some { block := w4.heap.size, off := 0 }), Value.pointer (some { block := w6.heap.size, off := 0 }), Value.int IntKind.i64 (j : Int), Value.pointer (some ⟨W.heap.size, 0, none⟩), Value.agg #[Value.bool (fr false a b).neg, Value.slice p (fr false a b).num.length cp, Value.slice q (fr false a b).den.length cq], Value.int IntKind.i64 (n : Int), Value.bool (trialsB (n : Int) 0 0), Value.int IntKind.i64 0, Value.agg #[Value.bool (fr false x y).neg, Value.slice p' (fr false x y).num.length cp', Value.slice q' (fr false x y).den.length cq'], Value.int IntKind.i64 0, Value.bool false, Value.int IntKind.i64 0, Value.bool false, Value.bool false, Value.int IntKind.i64 0, Value.bool false, Value.bool false, Value.bool false, Value.int IntKind.i64 0, Value.bool false, Value.bool false, Value.int IntKind.i64 0, Value.bool false, Value.bool false, Value.int IntKind.i64 (n : Int), Value.agg #[Value.bool (fr false a b).neg, Value.slice p (fr false a b).num.length cp, Value.slice q (fr false a b).den.length cq], Value.agg #[Value.int IntKind.i64 (n : Int), Value.bool false, Value.slice p1 (limbs (b ^ n)).length cp1, Value.slice q1 (limbs 1).length cq1, Value.func (Fn.func 70) #[] #[Value.pointer (some { block := g2, off := 0 }), Value.pointer (some { block := g9, off := 0 }), Value.pointer (some { block := g10, off := 0 })]], Value.agg #[Value.int IntKind.i64 (n : Int), Value.bool false, Value.slice p1 (limbs (b ^ n)).length cp1, Value.slice q1 (limbs 1).length cq1, Value.func (Fn.func 70) #[] #[Value.pointer (some { block := g2, off := 0 }), Value.pointer (some { block := g9, off := 0 }), Value.pointer (some { block := g10, off := 0 })]], Value.agg #[Value.bool (fr false x y).neg, Value.slice p' (fr false x y).num.length cp', Value.slice q' (fr false x y).den.length cq'], Value.func (Fn.func 86) #[] #[Value.pointer (some { block := D, off := 0 }), Value.pointer (some { block := S, off := 0 }), Value.pointer (some { block := N, off := 0 }), Value.pointer (some { block := B, off := 0 })], Value.agg #[Value.int IntKind.i64 (n : Int), Value.bool false, Value.slice p1 (limbs (b ^ n)).length cp1, Value.slice q1 (limbs 1).length cq1, Value.func (Fn.func 70) #[] #[Value.pointer (some { block := g2, off := 0 }), Value.pointer (some { block := g9, off := 0 }), Value.pointer (some { block := g10, off := 0 })]], Value.func (Fn.func 87) #[] #[Value.pointer (some { block := W7.heap.size, off := 0 })], Value.int IntKind.i64 (j : Int), Value.agg #[Value.bool (Wh (tl a (b - a) n j)).neg, Value.slice px lx cx, Value.slice py ly cy], undef, undef, undef, undef, undef], defers := [] }) ?hA ?assign ?body ?done ?stop)
  case hA =>
    rintro j v a1 W w1 ⟨px, py, lx, cx, ly, cy, rfl, rfl, _⟩
    exact held_alloc (Below.refl _ W)
  case assign =>
    intro l j v W K hj hv hK
    obtain ⟨vx, vy, rfl, hx, hy⟩ := hv
    obtain ⟨px, cx, rfl, _, _⟩ := hx.shape
    obtain ⟨py, cy, rfl, _, _⟩ := hy.shape
    clear hx hy
    gi_wp2
    refine ⟨px, py, (Wh (tl a (b - a) n j)).num.length, cx, (Wh (tl a (b - a) n j)).den.length, cy, ?_⟩
    simp
  case body =>
    rintro l j v W w1 w2 a1 hj hC hbW hv ⟨px, py, lx, cx, ly, cy, rfl, rfl, rfl⟩ hl1 hl2 hgr htag
    have hr : ∀ g, some l = some g → ¬ Tag32 (W.alloc (.cells #[.bool (Wh (tl a (b - a) n j)).neg, .slice px lx cx, .slice py ly cy] 30)) g := fun g e => by injection e with e; rw [← e]; exact htag
    have hv2 : IsF w2 (.agg #[.bool (Wh (tl a (b - a) n j)).neg, .slice px lx cx, .slice py ly cy]) (Wh (tl a (b - a) n j)) := (hv.alloc _).grown hgr hr
    have hbw2 : Below W8.heap.size W8 w2 := (hbW.alloc hbW.size _).grown hgr (by have := hbW.size; simp; omega) (fun g e => by injection e with e; omega)
    have bv2 := (Box.new W #[.bool (Wh (tl a (b - a) n j)).neg, .slice px lx cx, .slice py ly cy] 30).grown hgr (by intro e; injection e with e; omega)
    obtain ⟨v0, v1, v2⟩ := bv2.cells3
    have hf2 : w2.cell? ⟨w6.heap.size, 0, none⟩ = some (.func (.func 86) #[] #[.pointer (some ⟨D, 0, none⟩), .pointer (some ⟨S, 0, none⟩), .pointer (some ⟨N, 0, none⟩), .pointer (some ⟨B, 0, none⟩)]) := (BF8.out.after hbw2).cell 0
    have HV2 := Lib.hid hv2
    have HB2 := Lib.hid hbw2
    clear hv2 bv2 hgr htag hv hbW hr
    obtain ⟨D', S', N', B', va', vb', e2', e9', e10', hfe, q1', q2', q3', q4', q5', q6'⟩ := (HAb8.out.after hbw2)
    obtain ⟨rfl, rfl, rfl, rfl⟩ : D = D' ∧ S = S' ∧ N = N' ∧ B = B' := by simpa using hfe
    have hcon := Lib.hid (above1_t w2 _ va' vb' D S N B (tl a (b - a) n j) x y ((a + (b - a)) ^ n) n e2' e9' e10' HV2.out q1' q2' q3' q4' q5' q6' HOK.out (HT1.out j) HA1.out HA2.out)
    clear hfe q1' q2' q3' q4' q5' q6' hbw2
    by_cases habv : Abv n a (b - a) x y j
    · gi_wp2
      refine ⟨trivial, (CallsIn.inRound l (callsIn_wide.2 hcon.out)).mono ?_⟩
      intro e w3 hr
      obtain ⟨rfl, hb3⟩ := hr.yes habv
      have hbx3 := HB2.out.trans (hb3.mono HB2.out.size)
      have BR3 := BR8.out.after hbx3
      have BE3 := BE8.out.after hbx3
      have r0 : w3.cell? ⟨w.heap.size + 1 + 1, 0, none⟩ = some (.int .i64 0) := BR3.cell 0
      have r1 := BR3.frozen 0
      have r2 : w3.cell? ⟨w.heap.size + 1 + 1 + 1, 0, none⟩ = some (.int .i64 0) := BE3.cell 0
      have r3 := BE3.frozen 0
      have HBR3 := Lib.hid BR3
      have HBE3 := Lib.hid BE3
      have HBX3 := Lib.hid (HB8.out.trans (hbx3.mono HB8.out.size))
      have HSZ := Lib.hid hb3.size
      have HBL := Lib.hid hb3
      have HABV := Lib.hid habv
      have hj64 : j ≤ 64 := Nat.le_trans hj HN.out
      clear hb3 hbx3 BR3 BE3 habv hr
      gi_wp2
      refine ⟨⟨HABV.out, ?_, ?_, ?_⟩, ?_, ?_⟩
      · have := (HBR3.out.set 0 (.int .i64 ((j : Int) + 1))).far (p := ⟨w.heap.size + 1 + 1 + 1, 0, none⟩) (by simp) (.int .i64 0)
        simpa using this
      · have := (HBE3.out.far (p := ⟨w.heap.size + 1 + 1, 0, none⟩) (by simp) (.int .i64 ((j : Int) + 1))).set 0 (.int .i64 0)
        simpa using this
      · exact (HBX3.out.setCell (p := ⟨w.heap.size + 1 + 1, 0, none⟩) (by simp; omega) _).setCell (p := ⟨w.heap.size + 1 + 1 + 1, 0, none⟩) (by simp; omega) _
      · have := HSZ.out
        simpa [World.setCell] using this
      · intro b' h1 h2
        exact (Below.heap_setCell _ ⟨w.heap.size + 1 + 1 + 1, 0, none⟩ _ _ (by simp; omega)).trans ((Below.heap_setCell _ ⟨w.heap.size + 1 + 1, 0, none⟩ _ _ (by simp; omega)).trans (HBL.out.block b' h2))
    · gi_wp2
      refine ⟨trivial, (CallsIn.inRound l (callsIn_wide.2 hcon.out)).mono ?_⟩
      intro e w3 hr
      obtain ⟨rfl, hb3⟩ := hr.no habv
      have HABV := Lib.hid habv
      have HB3 := Lib.hid hb3
      clear hb3 hr
      gi_wp2
      exact ⟨habv, HB3.out⟩
  case done =>
    intro W hb hC hK
    have hDl := (Array.getElem?_eq_some_iff.1 hK).1
    have br := BR8.out.after hb
    have be := BE8.out.after hb
    have r0 : W.cell? ⟨w.heap.size + 1 + 1, 0, none⟩ = some (.int .i64 0) := br.cell 0
    have r1 := br.frozen 0
    have r2 : W.cell? ⟨w.heap.size + 1 + 1 + 1, 0, none⟩ = some (.int .i64 0) := be.cell 0
    have r3 := be.frozen 0
    have HBW := Lib.hid (HB8.out.trans (hb.mono HB8.out.size))
    have HBR := Lib.hid br
    have HBE := Lib.hid be
    have HK := Lib.hid hK
    clear hb br be hK
    go_wp2_with fail
    have hK4 : ((W.setCell ⟨w.heap.size + 1 + 1, 0, none⟩ (.int .i64 0)).setCell ⟨w.heap.size + 1 + 1 + 1, 0, none⟩ (.int .i64 0)).heap[W8.heap.size]? = some (.deferred (some [])) :=
      (Below.heap_setCell _ ⟨w.heap.size + 1 + 1 + 1, 0, none⟩ _ _ (by simp; omega)).trans ((Below.heap_setCell _ ⟨w.heap.size + 1 + 1, 0, none⟩ _ _ (by simp; omega)).trans HK.out)
    refine ⟨by simp, .inl ⟨_, _, rfl, run_takeDeferred hK4, ?_⟩⟩
    have b1 : Box ((W.setCell ⟨w.heap.size + 1 + 1, 0, none⟩ (.int .i64 0)).setCell ⟨w.heap.size + 1 + 1 + 1, 0, none⟩ (.int .i64 0)) (w.heap.size + 1 + 1) #[.int .i64 0] 3 := by
      have := (HBR.out.set 0 (.int .i64 0)).far (p := ⟨w.heap.size + 1 + 1 + 1, 0, none⟩) (by simp) (.int .i64 0)
      simpa using this
    have b2 : Box ((W.setCell ⟨w.heap.size + 1 + 1, 0, none⟩ (.int .i64 0)).setCell ⟨w.heap.size + 1 + 1 + 1, 0, none⟩ (.int .i64 0)) (w.heap.size + 1 + 1 + 1) #[.int .i64 0] 35 := by
      have := (HBE.out.far (p := ⟨w.heap.size + 1 + 1, 0, none⟩) (by simp) (.int .i64 0)).set 0 (.int .i64 0)
      simpa using this
    have b3 : Below w.heap.size w ((W.setCell ⟨w.heap.size + 1 + 1, 0, none⟩ (.int .i64 0)).setCell ⟨w.heap.size + 1 + 1 + 1, 0, none⟩ (.int .i64 0)) := (HBW.out.setCell (p := ⟨w.heap.size + 1 + 1, 0, none⟩) (by simp; omega) _).setCell (p := ⟨w.heap.size + 1 + 1 + 1, 0, none⟩) (by simp; omega) _
    obtain ⟨W4, hW4⟩ : ∃ W4, W4 = (W.setCell ⟨w.heap.size + 1 + 1, 0, none⟩ (.int .i64 0)).setCell ⟨w.heap.size + 1 + 1 + 1, 0, none⟩ (.int .i64 0) := ⟨_, rfl⟩
    rw [← hW4] at b1 b2 b3 hK4 ⊢
    clear hW4
    have c1 := b1.grown (putObj_grown W4 W8.heap.size (.deferred none)) (by intro e; injection e with e; omega)
    have c2 := b2.grown (putObj_grown W4 W8.heap.size (.deferred none)) (by intro e; injection e with e; omega)
    have c3 := b3.grown (putObj_grown W4 W8.heap.size (.deferred none)) b3.size (fun g e => by injection e with e; omega)
    obtain ⟨W5, hW5⟩ : ∃ W5, W5 = W4.putObj W8.heap.size (.deferred none) := ⟨_, rfl⟩
    rw [← hW5] at c1 c2 c3 ⊢
    clear hW5
    have e0 : W5.cell? ⟨w.heap.size + 1 + 1, 0, none⟩ = some (.int .i64 0) := c1.cell 0
    have e1 : W5.cell? ⟨w.heap.size + 1 + 1 + 1, 0, none⟩ = some (.int .i64 0) := c2.cell 0
    refine ⟨.tuple #[.int .i64 0, .int .i64 0], by simp [results, Try.results43, go_sem, e0, e1], ?_⟩
    exact ⟨0, rfl, .inr ⟨hC, rfl⟩, c3⟩
  case stop =>
    rintro l j W3 W hj hC ⟨hav, hbr, hbe, hbx⟩ hl hgr htag hK
    have b1 := hbr.grown hgr (by intro e; injection e with e; omega)
    have b2 := hbe.grown hgr (by intro e; injection e with e; omega)
    have b3 := hbx.grown hgr hbx.size (fun g e => by injection e with e; omega)
    have c1 := b1.grown (putObj_grown W W8.heap.size (.deferred none)) (by intro e; injection e with e; omega)
    have c2 := b2.grown (putObj_grown W W8.heap.size (.deferred none)) (by intro e; injection e with e; omega)
    have c3 := b3.grown (putObj_grown W W8.heap.size (.deferred none)) b3.size (fun g e => by injection e with e; omega)
    have HAV := Lib.hid hav
    have HCC := Lib.hid hC
    clear hbr hbe hbx hgr htag b1 b2 b3 hav hC
    gi_wp2
    refine ⟨by simp, .inl ⟨_, _, rfl, run_takeDeferred hK, ?_⟩⟩
    obtain ⟨W5, hW5⟩ : ∃ W5, W5 = W.putObj W8.heap.size (.deferred none) := ⟨_, rfl⟩
    rw [← hW5] at c1 c2 c3 ⊢
    clear hW5
    have e0 : W5.cell? ⟨w.heap.size + 1 + 1, 0, none⟩ = some (.int .i64 ((j : Int) + 1)) := c1.cell 0
    have e1 : W5.cell? ⟨w.heap.size + 1 + 1 + 1, 0, none⟩ = some (.int .i64 0) := c2.cell 0
    refine ⟨.tuple #[.int .i64 ((j : Int) + 1), .int .i64 0], by simp [results, Try.results43, go_sem, e0, e1], ?_⟩
    exact ⟨j + 1, rfl, .inl ⟨j, hj, HAV.out, HCC.out, rfl⟩, c3⟩
end Go.Proofs.Ytjjefdkadgkhfaa

namespace Go.Proofs.Ytjjefdkadgkhfaa
open Go.RowKit

set_option maxRecDepth 100000 in
set_option maxHeartbeats 4000000 in
theorem tCritical_bad (w : World) (n : Int) (X Y : F) (v u : Value) (h : IsF w v X) (k : IsF w u Y) (hno : checkE X (trialsB n 0 0) ≠ 0 ∨ fracE Y ≠ 0) :
    Calls Try.prog 43 #[.int .i64 n, v, u] w fun e w' => e = .returned (.tuple #[.int .i64 0, .int .i64 (if checkE X (trialsB n 0 0) = 1 ∨ fracE Y = 1 then 1 else 2)]) ∧ Below w.heap.size w w' := by
  obtain ⟨e, he⟩ : ∃ e, checkE X (trialsB n 0 0) = e := ⟨_, rfl⟩
  obtain ⟨f, hf⟩ : ∃ f, fracE Y = f := ⟨_, rfl⟩
  have ce := checkE_cases X (trialsB n 0 0)
  have cf := fracE_cases Y
  rw [he] at hno ce
  rw [hf] at hno cf
  have HC' := Lib.hid he
  have HF' := Lib.hid hf
  have hres : Hid ((if checkE X (trialsB n 0 0) = 1 ∨ fracE Y = 1 then (1 : Int) else 2) = if e = 1 ∨ f = 1 then 1 else 2) := by show _ = _; rw [he, hf]
  rw [hres.out]
  clear he hf
  have HX := h
  have HY := k
  obtain ⟨va, vb, rfl, h1, h2⟩ := h
  obtain ⟨vc, vd, rfl, k1, k2⟩ := k
  obtain ⟨p, cp, rfl, _, _⟩ := h1.shape
  obtain ⟨q, cq, rfl, _, _⟩ := h2.shape
  obtain ⟨p', cp', rfl, _, _⟩ := k1.shape
  obtain ⟨q', cq', rfl, _, _⟩ := k2.shape
  obtain ⟨W0, hW, bP, bB, bR, bE, hsz, hb0'⟩ : ∃ W0, W0 = (((w.alloc (.cells #[.bool X.neg, .slice p X.num.length cp, .slice q X.den.length cq] 30)).alloc (.cells #[.bool Y.neg, .slice p' Y.num.length cp', .slice q' Y.den.length cq'] 30)).alloc (.cells #[.int .i64 0] 3)).alloc (.cells #[.int .i64 0] 35) ∧
      Box W0 w.heap.size #[.bool X.neg, .slice p X.num.length cp, .slice q X.den.length cq] 30 ∧ Box W0 (w.heap.size + 1) #[.bool Y.neg, .slice p' Y.num.length cp', .slice q' Y.den.length cq'] 30 ∧ Box W0 (w.heap.size + 1 + 1) #[.int .i64 0] 3 ∧ Box W0 (w.heap.size + 1 + 1 + 1) #[.int .i64 0] 35 ∧ W0.heap.size = w.heap.size + 4 ∧ Below w.heap.size w W0 :=
    ⟨_, rfl, fourA rfl, fourB rfl, fourC rfl, fourD rfl, by simp, held_alloc (held_alloc (held_alloc (held_alloc (Below.refl _ w))))⟩
  obtain ⟨c0, c1, c2⟩ := bP.cells3
  obtain ⟨d0, d1, d2⟩ := bB.cells3
  have HP := Lib.hid (HX.after hb0')
  have HBd := Lib.hid (HY.after hb0')
  have HB0 := Lib.hid hb0'
  have BP := Lib.hid bP
  have BB := Lib.hid bB
  have BR := Lib.hid bR
  have BE := Lib.hid bE
  have mkS : Hid (∀ w', Below W0.heap.size W0 w' → w'.cell? ⟨w.heap.size, 0, none⟩ = some (.bool X.neg) ∧ w'.cell? ⟨w.heap.size, 1, none⟩ = some (.slice p X.num.length cp) ∧ w'.cell? ⟨w.heap.size, 2, none⟩ = some (.slice q X.den.length cq) ∧
      w'.cell? ⟨w.heap.size + 1, 0, none⟩ = some (.bool Y.neg) ∧ w'.cell? ⟨w.heap.size + 1, 1, none⟩ = some (.slice p' Y.num.length cp') ∧ w'.cell? ⟨w.heap.size + 1, 2, none⟩ = some (.slice q' Y.den.length cq')) :=
    fun w' hb => ⟨keep_cell hb c0, keep_cell hb c1, keep_cell hb c2, keep_cell hb d0, keep_cell hb d1, keep_cell hb d2⟩
  clear HX HY h1 h2 k1 k2 bP bB bR bE hb0' c0 c1 c2 d0 d1 d2
  rcases ce with rfl | rfl | rfl <;> rcases cf with rfl | rfl | rfl <;> try (exfalso; simp at hno; done)
  all_goals
    clear hno
    go_enter Try.func43, Try.ntmps43
    go_upto_region 1 with fail
    rw [← hW]
    clear hW
    go_region_held3 (fun w' => w'.cell? ⟨w.heap.size, 0, none⟩ = some (.bool X.neg) ∧ w'.cell? ⟨w.heap.size, 1, none⟩ = some (.slice p X.num.length cp) ∧ w'.cell? ⟨w.heap.size, 2, none⟩ = some (.slice q X.den.length cq) ∧
        w'.cell? ⟨w.heap.size + 1, 0, none⟩ = some (.bool Y.neg) ∧ w'.cell? ⟨w.heap.size + 1, 1, none⟩ = some (.slice p' Y.num.length cp') ∧ w'.cell? ⟨w.heap.size + 1, 2, none⟩ = some (.slice q' Y.den.length cq'))
      (first | (refine mkS.out _ ?_; (repeat (first | with_reducible exact hk3 | with_reducible exact hk2 | with_reducible exact Below.refl _ _ | with_reducible refine below_dr ?_)); done))
      (first
       | (go_at_call 45; refine (ttrials_c _ _ _ _).mono ?_; rintro e w' ⟨rfl, rfl⟩)
       | (go_at_call 44; refine (checked_c _ _ X _ ?_).mono ?_; exact HP.out.after (below_dr (Below.refl _ W0)); rw [HC'.out]; rintro e w2 ⟨rfl, hb2⟩; have hk2 := below_of_drew hb2)
       | (go_at_call 65; refine (fraction_c _ _ Y ?_).mono ?_; exact HBd.out.after hk2; rw [HF'.out]; rintro e w3 ⟨rfl, hb3⟩; have hk3 := hk2.trans (hb3.mono hk2.size)))
    have br := BR.out.after hk3
    have be := BE.out.after hk3
    have r0 : w3.cell? ⟨w.heap.size + 1 + 1, 0, none⟩ = some (.int .i64 0) := br.cell 0
    have r1 := br.frozen 0
    have r2 : w3.cell? ⟨w.heap.size + 1 + 1 + 1, 0, none⟩ = some (.int .i64 0) := be.cell 0
    have r3 := be.frozen 0
    have HBW := Lib.hid (HB0.out.trans (hk3.mono HB0.out.size))
    clear br be hk2 hk3 hb2 hb3 mkS
    go_wp2_with fail
    have hfin := (HBW.out.setCell (p := ⟨w.heap.size + 1 + 1, 0, none⟩) (by simp; omega) (.int .i64 0))
    first
      | (refine bodyPost_ret (v := .tuple #[.int .i64 0, .int .i64 1]) ?_ rfl ⟨rfl, hfin.setCell (p := ⟨w.heap.size + 1 + 1 + 1, 0, none⟩) ?_ _⟩
         · simp [results, Try.results43, go_sem, r0, r2]
         · simp; omega)
      | (refine bodyPost_ret (v := .tuple #[.int .i64 0, .int .i64 2]) ?_ rfl ⟨rfl, hfin.setCell (p := ⟨w.heap.size + 1 + 1 + 1, 0, none⟩) ?_ _⟩
         · simp [results, Try.results43, go_sem, r0, r2]
         · simp; omega)

/-- What Critical returns: the least number of failures, or an error. -/
def critF (n : Int) (p b : F) (r : Int × Int) : Prop :=
  if checkE p (trialsB n 0 0) = 0 ∧ fracE b = 0 then ∃ m : Nat, r = ((m : Int), 0) ∧ CritR n.toNat (val p.num) (val p.den - val p.num) (val b.num) (val b.den) m
  else r = (0, if checkE p (trialsB n 0 0) = 1 ∨ fracE b = 1 then 1 else 2)
theorem frac_fr {x : F} (h : fracE x = 0) : ∃ a b, x = fr false a b ∧ Ok false a b ∧ a ≤ b ∧ val x.num = a ∧ val x.den = b := by
  obtain ⟨hv, hn, hle⟩ := fracE_zero h
  have he := hv.eq
  have hk := hv.2.2
  rw [hn] at he hk
  exact ⟨_, _, he, hk, hle, rfl, rfl⟩
theorem tCritical_c (w : World) (n : Int) (v u : Value) (X Y : F) (h : IsF w v X) (k : IsF w u Y) :
    Calls Try.prog 43 #[.int .i64 n, v, u] w fun e w' => ∃ r : Int × Int, e = .returned (.tuple #[.int .i64 r.1, .int .i64 r.2]) ∧ critF n X Y r ∧ Below w.heap.size w w' := by
  by_cases hc : checkE X (trialsB n 0 0) = 0 ∧ fracE Y = 0
  · obtain ⟨hr, ht⟩ := checkE_zero hc.1
    obtain ⟨a, b, rfl, hab, hb0, hb1, ea, eb⟩ := rate_fr hr
    obtain ⟨x, y, rfl, hok, hxy, ex', ey⟩ := frac_fr hc.2
    obtain ⟨t1, t2, t3, t4⟩ := trialsB_iff.1 ht
    obtain ⟨N, rfl⟩ : ∃ N : Nat, n = N := ⟨n.toNat, by omega⟩
    refine (tCritical_good w N a b x y v u h k (by omega) hab hb0 hb1 hok hc.1 hc.2).mono ?_
    rintro e w' ⟨m, rfl, hm, hb⟩
    refine ⟨((m : Int), 0), rfl, ?_, hb⟩
    unfold critF
    rw [if_pos hc, ea, eb, ex', ey]
    exact ⟨m, rfl, by simpa using hm⟩
  · refine (tCritical_bad w n X Y v u h k ?_).mono ?_
    · by_cases h1 : checkE X (trialsB n 0 0) = 0
      · exact .inr (fun h2 => hc ⟨h1, h2⟩)
      · exact .inl h1
    rintro e w' ⟨rfl, hb⟩
    refine ⟨(0, if checkE X (trialsB n 0 0) = 1 ∨ fracE Y = 1 then 1 else 2), rfl, ?_, hb⟩
    unfold critF
    rw [if_neg hc]
end Go.Proofs.Ytjjefdkadgkhfaa

namespace Go.Proofs.Ytjjefdkadgkhfaa
open Go.RowKit

end Go.Proofs.Ytjjefdkadgkhfaa

namespace Go.Proofs.Ytjjefdkadgkhfaa
open Go.RowKit

theorem CmpS.le {m n : Nat} {r : Int} (h : CmpS (limbs m) (limbs n) r) : r ≤ 0 ↔ m ≤ n := by
  obtain ⟨h1, h2, h3⟩ := h
  rcases Nat.lt_trichotomy (limbs m).length (limbs n).length with hl | hl | hl
  · have := h1 hl
    constructor
    · intro _
      rcases Nat.lt_or_ge n m with hlt | hge
      · have := limbs_len_mono (Nat.le_of_lt hlt); omega
      · exact hge
    · intro _; omega
  · have := h3 hl
    rw [val_limbs, val_limbs] at this
    rcases this with ⟨a, b⟩ | ⟨a, b⟩ | ⟨a, b⟩
    · omega
    · have := limbs_inj a; omega
    · omega
  · have := h2 hl
    constructor
    · intro h; omega
    · intro h; have := limbs_len_mono h; omega

theorem fracE_iff {x : F} (h : ValidF x) : (x.neg = false ∧ val x.num ≤ val x.den) ↔ fracE x = 0 := by
  rw [fracE_yes h]
  by_cases hc : x.neg = true ∨ val x.den < val x.num
  · rw [if_pos hc]
    constructor
    · rintro ⟨h1, h2⟩
      rcases hc with h3 | h3
      · rw [h1] at h3; cases h3
      · omega
    · intro h; omega
  · rw [if_neg hc]
    constructor
    · intro _; rfl
    · intro _
      refine ⟨?_, ?_⟩
      · cases hx : x.neg
        · rfl
        · exact absurd (.inl hx) hc
      · rcases Nat.lt_or_ge (val x.den) (val x.num) with h1 | h1
        · exact absurd (.inr h1) hc
        · exact h1

end Go.Proofs.Ytjjefdkadgkhfaa

namespace Go.Proofs.Ytjjefdkadgkhfaa
open Go.RowKit

theorem CmpS.gt {m n : Nat} {r : Int} (h : CmpS (limbs m) (limbs n) r) : 0 < r ↔ n < m := by
  have := h.le
  constructor
  · intro h1; rcases Nat.lt_or_ge n m with h2 | h2
    · exact h2
    · have := this.2 h2; omega
  · intro h1; rcases Int.lt_or_le 0 r with h2 | h2
    · exact h2
    · have := this.1 h2; omega

end Go.Proofs.Ytjjefdkadgkhfaa

namespace Go.Proofs.Ytjjefdkadgkhfaa
open Go.RowKit

theorem rsum_n (w : World) (va vb : Value) (a b : Nat) (h : Sl w va (limbs a)) (k : Sl w vb (limbs b)) (ha : (limbs a).length ≤ 1000000) (hb : (limbs b).length ≤ 1000000) :
    Calls Try.prog 95 #[va, vb] w (RetNat w (a + b)) := by
  have := Sum_c w va vb _ _ h k ha hb; rwa [val_limbs, val_limbs] at this

theorem lit_one (w : World) : Sl (w.alloc (.cells #[.int .u32 1] 104)) (.slice (some ⟨w.heap.size, 0, none⟩) 1 1) (limbs 1) := by
  rw [limbs_one]
  exact Sl.of_row (l := [1]) (Row32.lit1 w 1 1 rfl) (Lb.cons (by omega) Lb.nil) (by simp) (by omega)
theorem ownsRow_le {w : World} {base b n size : Nat} {t : TypeId} {v : Value} {xs : List Value} (h : w.ownsRow base t size v n xs) (hb : b ≤ base) : w.ownsRow b t size v n xs := by
  refine ⟨h.1, ?_⟩
  rcases h.2 with h1 | ⟨g, cap, cur, h1, h2, h3⟩
  · exact .inl h1
  · exact .inr ⟨g, cap, cur, h1, Nat.le_trans hb h2, h3⟩
/-- A row of one number 1. -/
theorem lit_row (w : World) (base : Nat) (hb : base ≤ w.heap.size) (i : Nat) : ((w.alloc (.cells #[.int .u32 1] 104)).alloc (.cells #[.slice (some ⟨w.heap.size, 0, none⟩) 1 1] 28)).ownsRow base 28 1 (.slice (some ⟨w.heap.size + 1, 0, none⟩) 1 1) 1 [.slice (some ⟨w.heap.size, 0, none⟩) 1 1] ∧
    EntsN ((w.alloc (.cells #[.int .u32 1] 104)).alloc (.cells #[.slice (some ⟨w.heap.size, 0, none⟩) 1 1] 28)) [.slice (some ⟨w.heap.size, 0, none⟩) 1 1] (pasc i 1) := by
  constructor
  · have := ownsRow_one1 (w.alloc (.cells #[.int .u32 1] 104)) (base := base) 28 (by simp; omega) (.slice (some ⟨w.heap.size, 0, none⟩) 1 1)
    simpa using this
  · rw [pasc_one]
    exact ((EntsN.nil _).snoc (lit_one w)).after ((Below.refl _ _).alloc (Nat.le_refl _) _)

end Go.Proofs.Ytjjefdkadgkhfaa

namespace Go.Proofs.Ytjjefdkadgkhfaa
open Go.RowKit

theorem rdiff_n (w : World) (va vb : Value) (a b : Nat) (h : Sl w va (limbs a)) (k : Sl w vb (limbs b)) (hle : b ≤ a) (ha : (limbs a).length ≤ 1000000) :
    Calls Try.prog 93 #[va, vb] w (RetNat w (a - b)) := by
  have := Diff_c w va vb _ _ h k (limbs_len_mono hle) (by rw [val_limbs, val_limbs]; exact hle) ha; rwa [val_limbs, val_limbs] at this
theorem limbs_1000 {a : Nat} (h : a ≤ 1000) : (limbs a).length ≤ 1 := limbs_len_lt (by omega)

theorem ex_limbs {a b n k : Nat} (hab : a ≤ b) (hb1 : b ≤ 1000) (hn : n ≤ 64) : (limbs (ex a (b - a) n k)).length ≤ 20 :=
  Nat.le_trans (limbs_len_mono (ex_all_le a (b - a) n k)) (pow_limbs (by omega) hn)
theorem tl_limbs {a b n k : Nat} (hab : a ≤ b) (hb1 : b ≤ 1000) (hn : n ≤ 64) : (limbs (tl a (b - a) n k)).length ≤ 20 :=
  Nat.le_trans (limbs_len_mono (tl_all_le a (b - a) n k)) (pow_limbs (by omega) hn)

end Go.Proofs.Ytjjefdkadgkhfaa
