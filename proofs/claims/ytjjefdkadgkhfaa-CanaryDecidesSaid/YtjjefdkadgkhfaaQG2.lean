/- Walks of the statements' own functions on rollouts by small numbers: made. -/
import Derived.Test.YtjjefdkadgkhfaaQG1
import Derived.Test.YtjjefdkadgkhfaaQGp
import Derived.Test.YtjjefdkadgkhfaaK26
set_option linter.unusedVariables false
namespace Go.Proofs.Ytjjefdkadgkhfaa
open Go.RowKit

/-- The value v is a rollout by small numbers. -/
def IsS (w : World) (v : Value) (h : Nat) (ws : List Nat) (r0 r1 b0 b1 : Nat) : Prop := (h < 256 ∧ (∀ z ∈ ws, z < 256) ∧ r0 < 256 ∧ r1 < 256 ∧ b0 < 256 ∧ b1 < 256) ∧ ∃ vw, v = .agg #[.int .u8 (h : Int), vw, .int .u8 (r0 : Int), .int .u8 (r1 : Int), .int .u8 (b0 : Int), .int .u8 (b1 : Int)] ∧ SlV w vw (ws.map fun z => .int .u8 ((z : Nat) : Int))
theorem IsS.after {w w' : World} {v : Value} {h : Nat} {ws : List Nat} {r0 r1 b0 b1 : Nat} (k : IsS w v h ws r0 r1 b0 b1) (hb : Below w.heap.size w w') : IsS w' v h ws r0 r1 b0 b1 := by
  obtain ⟨k0, vw, e, k1⟩ := k
  exact ⟨k0, vw, e, k1.after hb⟩
/-- Block B's cells are mk of a row of ints of its own, made since world W2; nothing else of W2 has turned. -/
def Grow (W2 : World) (B : Nat) (mk : Value → Array Value) (t : TypeId) (l : List Int) (W : World) : Prop := ∃ p c, Box W B (mk (.slice p l.length c)) t ∧ W.ownsRow W2.heap.size 3 1 (.slice p l.length c) l.length (l.map (Value.int .i64)) ∧ Fx (fun g => g = B) W2 W
theorem Grow.push {W2 wr w5 : World} {B f : Nat} {mk : Value → Array Value} {t tl : TypeId} {l : List Int} {p : Option Addr} {c : Nat} {z : Int} {v' : Value} (hB : B < W2.heap.size) (hmk : ∀ v v', (mk v).setIfInBounds f v' = mk v') (hbo : Box wr B (mk (.slice p l.length c)) t)
    (hown : wr.ownsRow W2.heap.size 3 1 (.slice p l.length c) l.length (l.map (Value.int .i64))) (hf : Fx (fun g => g = B) W2 wr)
    (hown' : w5.ownsRow W2.heap.size 3 1 v' (l.length + 1) (l.map (Value.int .i64) ++ [.int .i64 z])) (hgr : (wr.alloc (.cells #[.int .i64 z] tl)).grownBy w5 (Value.slice p l.length c).ownBlock) :
    Box w5 B (mk (.slice p l.length c)) t ∧ Grow W2 B mk t (l ++ [z]) (w5.setCell ⟨B, f, none⟩ v') := by
  have hge := ownsRow_ge (hown.alloc (.cells #[.int .i64 z] tl))
  have hge' := ownsRow_ge hown'
  have b5 : Box w5 B (mk (.slice p l.length c)) t := (hbo.alloc _).grown' hgr (by intro e; have := (hge B e.symm).1; omega)
  obtain ⟨p', c', rfl⟩ := ownsRow_shape hown'
  refine ⟨b5, p', c', ?_, ?_, ?_⟩
  · have := b5.set f (.slice p' (l.length + 1) c')
    rw [hmk] at this
    simpa using this
  · rw [List.map_append, List.length_append]
    refine hown'.kept (grown_set w5 B f _) ?_
    cases hb : (Value.slice p' (l.length + 1) c').ownBlock with
    | none => exact .inl rfl
    | some g => exact .inr (by intro e; injection e with e; have := (hge' g hb).1; omega)
  · exact ((hf.below (held_alloc (Below.refl _ wr))).grown hgr (fun g e => .inr (hge g e).1)).of (grown_set w5 B f _) rfl
theorem set8_keep {w0 w : World} {b : Nat} {y0 y1 y2 y3 y4 y5 y6 y7 : Value} (h : Below w0.heap.size w0 w) (hb : w0.heap.size ≤ b) : Below w0.heap.size w0 (set8 w b y0 y1 y2 y3 y4 y5 y6 y7) := set8_below h hb
theorem hostsN_take (n i : Nat) : (hostsN n).take i ++ [(n : Int) - 1 - (i : Int)] = if i < n then (hostsN n).take (i + 1) else (hostsN n).take i ++ [(n : Int) - 1 - (i : Int)] := by
  split
  · rename_i h
    rw [List.take_add_one]
    unfold hostsN
    rw [List.getElem?_map, List.getElem?_range h]
    rfl
  · rfl
theorem IsR.ofParts {w : World} {R : Ro} {x0 x1 x3 x4 x6 x7 : Value} (h0 : SlI w x0 R.hosts) (h1 : SlI w x1 R.waves) (h2 : IsF w (.agg #[.bool R.rate.neg, x3, x4]) R.rate) (h3 : IsF w (.agg #[.bool R.bound.neg, x6, x7]) R.bound) : IsR w (.agg #[x0, x1, .bool R.rate.neg, x3, x4, .bool R.bound.neg, x6, x7]) R := by
  obtain ⟨va, vb, e, i1, i2⟩ := h2
  obtain ⟨vc, vd, e', i3, i4⟩ := h3
  have k := congrArg Array.toList (Value.agg.inj e)
  have k' := congrArg Array.toList (Value.agg.inj e')
  simp at k k'
  obtain ⟨rfl, rfl⟩ := k
  obtain ⟨rfl, rfl⟩ := k'
  exact ⟨_, _, _, _, _, _, rfl, h0, h1, i1, i2, i3, i4⟩
theorem mem_le_sum : ∀ (l : List Int), (∀ z ∈ l, 1 ≤ z) → 0 ≤ l.sum ∧ ∀ z ∈ l, z ≤ l.sum
  | [], _ => ⟨by simp, by simp⟩
  | a :: l, h => by
    obtain ⟨h1, h2⟩ := mem_le_sum l fun z hz => h z (List.mem_cons_of_mem _ hz)
    have ha := h a (List.mem_cons_self ..)
    rw [List.sum_cons]
    refine ⟨by omega, fun z hz => ?_⟩
    rcases List.mem_cons.1 hz with rfl | hz
    · omega
    · have := h2 z hz; omega
theorem wavesN_in {n : Nat} (ws : List Nat) (h1 : 1 ≤ n) (h2 : n ≤ 16) : ∀ z ∈ wavesN n ws, In64 z := by
  obtain ⟨k1, k2⟩ := wavesN_ok ws n h1
  intro z hz
  have h3 := (mem_le_sum _ k1).2 z hz
  have h4 := k1 z hz
  rw [k2] at h3
  unfold In64; omega
theorem noU8 {w : World} {b : Nat} {p0 p1 p2 p3 p4 p5 : Option Addr} {n0 n1 n2 n3 n4 n5 k0 k1 k2 k3 k4 k5 : Nat} {s t : Bool} {ws : List Nat} (h : Box w b #[.slice p0 n0 k0, .slice p1 n1 k1, .bool s, .slice p2 n2 k2, .slice p3 n3 k3, .bool t, .slice p4 n4 k4, .slice p5 n5 k5] 32) :
    ∀ g o c, (fun g => g = b) g → w.cell? ⟨g, o, none⟩ = some c → c ∉ ws.map (fun z => Value.int .u8 ((z : Nat) : Int)) := by
  rintro g o c rfl hc hm
  obtain ⟨z, _, rfl⟩ := List.mem_map.1 hm
  rw [h.cell] at hc
  rcases o with _ | _ | _ | _ | _ | _ | _ | _ | o <;> simp at hc
theorem half_set {w : World} {B : Nat} {x y : F} {a2 a3 a4 a5 : Option Addr} {e2 e3 e4 e5 : Nat} (h : Box w B #[.slice none 0 0, .slice none 0 0, .bool false, .slice none 0 0, .slice none 0 0, .bool false, .slice none 0 0, .slice none 0 0] 32) (hx : IsF w (.agg #[.bool x.neg, .slice a2 x.num.length e2, .slice a3 x.den.length e3]) x) (hy : IsF w (.agg #[.bool y.neg, .slice a4 y.num.length e4, .slice a5 y.den.length e5]) y) :
    Box (set8 w B (.slice none 0 0) (.slice none 0 0) (.bool x.neg) (.slice a2 x.num.length e2) (.slice a3 x.den.length e3) (.bool y.neg) (.slice a4 y.num.length e4) (.slice a5 y.den.length e5)) B #[.slice none 0 0, .slice none 0 0, .bool x.neg, .slice a2 x.num.length e2, .slice a3 x.den.length e3, .bool y.neg, .slice a4 y.num.length e4, .slice a5 y.den.length e5] 32 ∧ IsF (set8 w B (.slice none 0 0) (.slice none 0 0) (.bool x.neg) (.slice a2 x.num.length e2) (.slice a3 x.den.length e3) (.bool y.neg) (.slice a4 y.num.length e4) (.slice a5 y.den.length e5)) (.agg #[.bool x.neg, .slice a2 x.num.length e2, .slice a3 x.den.length e3]) x ∧ IsF (set8 w B (.slice none 0 0) (.slice none 0 0) (.bool x.neg) (.slice a2 x.num.length e2) (.slice a3 x.den.length e3) (.bool y.neg) (.slice a4 y.num.length e4) (.slice a5 y.den.length e5)) (.agg #[.bool y.neg, .slice a4 y.num.length e4, .slice a5 y.den.length e5]) y := by
  have hf := (Fx.refl (fun g => g = B) w).of (set8_grown w B (.slice none 0 0) (.slice none 0 0) (.bool x.neg) (.slice a2 x.num.length e2) (.slice a3 x.den.length e3) (.bool y.neg) (.slice a4 y.num.length e4) (.slice a5 y.den.length e5)) rfl
  exact ⟨set8_box h _ _ _ _ _ _ _ _, hx.fx hf (dull_ro h), hy.fx hf (dull_ro h)⟩
theorem half_new {w : World} {x y : F} {a2 a3 a4 a5 : Option Addr} {e2 e3 e4 e5 : Nat} (hx : IsF w (.agg #[.bool x.neg, .slice a2 x.num.length e2, .slice a3 x.den.length e3]) x) (hy : IsF w (.agg #[.bool y.neg, .slice a4 y.num.length e4, .slice a5 y.den.length e5]) y) :
    Box (w.alloc (.cells #[.slice none 0 0, .slice none 0 0, .bool x.neg, .slice a2 x.num.length e2, .slice a3 x.den.length e3, .bool y.neg, .slice a4 y.num.length e4, .slice a5 y.den.length e5] 32)) w.heap.size #[.slice none 0 0, .slice none 0 0, .bool x.neg, .slice a2 x.num.length e2, .slice a3 x.den.length e3, .bool y.neg, .slice a4 y.num.length e4, .slice a5 y.den.length e5] 32 ∧ IsF (w.alloc (.cells #[.slice none 0 0, .slice none 0 0, .bool x.neg, .slice a2 x.num.length e2, .slice a3 x.den.length e3, .bool y.neg, .slice a4 y.num.length e4, .slice a5 y.den.length e5] 32)) (.agg #[.bool x.neg, .slice a2 x.num.length e2, .slice a3 x.den.length e3]) x ∧ IsF (w.alloc (.cells #[.slice none 0 0, .slice none 0 0, .bool x.neg, .slice a2 x.num.length e2, .slice a3 x.den.length e3, .bool y.neg, .slice a4 y.num.length e4, .slice a5 y.den.length e5] 32)) (.agg #[.bool y.neg, .slice a4 y.num.length e4, .slice a5 y.den.length e5]) y :=
  ⟨Box.new w _ _, hx.alloc _, hy.alloc _⟩

set_option maxRecDepth 100000 in
set_option maxHeartbeats 8000000 in
theorem made_c (w : World) (v : Value) (h : Nat) (ws : List Nat) (r0 r1 b0 b1 most : Nat) (k : IsS w v h ws r0 r1 b0 b1) (hm : 1 ≤ most) (hm16 : most ≤ 16) : Calls Try.prog 8 #[v, .int .i64 (most : Int)] w (RetR w (madeR h ws r0 r1 b0 b1 most)) := by
  obtain ⟨⟨hh, hws, hr0, hr1, hb0', hb1'⟩, vw, rfl, hsw⟩ := k
  have hsh := hsw
  obtain ⟨pw, cw, rfl, hw1, hw2, hw3, _⟩ := hsh
  simp only [List.length_map] at hw1
  have hlm : (List.map (fun z => Value.int IntKind.u8 ((z : Nat) : Int)) ws).length = ws.length := by simp
  rw [hlm] at hsw ⊢
  obtain ⟨W0, hW, bS, bR, hsz, hb0⟩ : ∃ W0, W0 = (w.alloc (.cells #[.int .u8 (h : Int), .slice pw ws.length cw, .int .u8 (r0 : Int), .int .u8 (r1 : Int), .int .u8 (b0 : Int), .int .u8 (b1 : Int)] 25)).alloc (.cells #[.slice none 0 0, .slice none 0 0, .bool false, .slice none 0 0, .slice none 0 0, .bool false, .slice none 0 0, .slice none 0 0] 32) ∧ Box W0 w.heap.size #[.int .u8 (h : Int), .slice pw ws.length cw, .int .u8 (r0 : Int), .int .u8 (r1 : Int), .int .u8 (b0 : Int), .int .u8 (b1 : Int)] 25 ∧ Box W0 (w.heap.size + 1) #[.slice none 0 0, .slice none 0 0, .bool false, .slice none 0 0, .slice none 0 0, .bool false, .slice none 0 0, .slice none 0 0] 32 ∧ W0.heap.size = w.heap.size + 2 ∧ Below w.heap.size w W0 := by
    refine ⟨_, rfl, (Box.new w _ _).alloc _, ?_, by simp, held_alloc (held_alloc (Below.refl _ w))⟩
    have := Box.new (w.alloc (.cells #[.int .u8 (h : Int), .slice pw ws.length cw, .int .u8 (r0 : Int), .int .u8 (r1 : Int), .int .u8 (b0 : Int), .int .u8 (b1 : Int)] 25)) #[.slice none 0 0, .slice none 0 0, .bool false, .slice none 0 0, .slice none 0 0, .bool false, .slice none 0 0, .slice none 0 0] 32
    simpa using this
  have s0 : W0.cell? ⟨w.heap.size, 0, none⟩ = some (.int .u8 (h : Int)) := bS.cell 0
  have s1 : W0.cell? ⟨w.heap.size, 1, none⟩ = some (.slice pw ws.length cw) := bS.cell 1
  have s2 : W0.cell? ⟨w.heap.size, 2, none⟩ = some (.int .u8 (r0 : Int)) := bS.cell 2
  have s3 : W0.cell? ⟨w.heap.size, 3, none⟩ = some (.int .u8 (r1 : Int)) := bS.cell 3
  have s4 : W0.cell? ⟨w.heap.size, 4, none⟩ = some (.int .u8 (b0 : Int)) := bS.cell 4
  have s5 : W0.cell? ⟨w.heap.size, 5, none⟩ = some (.int .u8 (b1 : Int)) := bS.cell 5
  have mkS : Hid (∀ w', Below W0.heap.size W0 w' → w'.cell? ⟨w.heap.size, 0, none⟩ = some (.int .u8 (h : Int)) ∧ w'.cell? ⟨w.heap.size, 1, none⟩ = some (.slice pw ws.length cw) ∧ w'.cell? ⟨w.heap.size, 2, none⟩ = some (.int .u8 (r0 : Int)) ∧ w'.cell? ⟨w.heap.size, 3, none⟩ = some (.int .u8 (r1 : Int)) ∧ w'.cell? ⟨w.heap.size, 4, none⟩ = some (.int .u8 (b0 : Int)) ∧ w'.cell? ⟨w.heap.size, 5, none⟩ = some (.int .u8 (b1 : Int))) := fun w' hb => ⟨keep_cell hb s0, keep_cell hb s1, keep_cell hb s2, keep_cell hb s3, keep_cell hb s4, keep_cell hb s5⟩
  obtain ⟨n, hn⟩ : ∃ n, 1 + h % most = n := ⟨_, rfl⟩
  have hmod : h % most < most := Nat.mod_lt _ hm
  have hn1 : 1 ≤ n := by omega
  have hn16 : n ≤ 16 := by omega
  have hrem : (h : Int) % (most : Int) = (((n - 1 : Nat) : Nat) : Int) := by
    have : h % most = n - 1 := by omega
    rw [← this]; rfl
  have hrem2 : (1 : Int) + (((n - 1 : Nat) : Nat) : Int) = (n : Int) := by omega
  have hmost0 : ¬ ((most : Int) = 0) := by omega
  obtain ⟨x, hx⟩ : ∃ x, partF2 r0 r1 = x := ⟨_, rfl⟩
  obtain ⟨y, hy⟩ : ∃ y, partF2 b0 b1 = y := ⟨_, rfl⟩
  have HRES : Hid (madeR h ws r0 r1 b0 b1 most = ⟨hostsN n, wavesN n ws, x, y⟩) := by show _ = _; unfold madeR; rw [hn, hx, hy]
  have HX : Hid ((ofF ((r0 % (r1 % 30 + 2) : Nat) : Int) ((r1 % 30 + 1 : Nat) : Int)).1 = x) := hx
  have HY : Hid ((ofF ((b0 % (b1 % 30 + 2) : Nat) : Int) ((b1 % 30 + 1 : Nat) : Int)).1 = y) := hy
  have HSW := Lib.hid (hsw.after hb0)
  have HB := Lib.hid hb0
  have BS := Lib.hid bS
  have BR := Lib.hid bR
  have HWS := Lib.hid hws
  have hlt0 : w.heap.size + 1 < W0.heap.size := by omega
  clear hx hy hn hsw hb0 bS bR hws hlm hmod hsz
  go_enter Try.func8, Try.ntmps8
  go_upto_region 1 with fail
  rw [← hW]
  clear hW
  go_upto_region 2 with fail
  go_cut [6] (fun x6 wx => ∃ (B : Nat) (a2 a3 a4 a5 : Option Addr) (e2 e3 e4 e5 : Nat), x6 = .pointer (some ⟨B, 0, none⟩) ∧ W0.heap.size ≤ B ∧ Hid (Box wx B #[.slice none 0 0, .slice none 0 0, .bool x.neg, .slice a2 x.num.length e2, .slice a3 x.den.length e3, .bool y.neg, .slice a4 y.num.length e4, .slice a5 y.den.length e5] 32 ∧ IsF wx (.agg #[.bool x.neg, .slice a2 x.num.length e2, .slice a3 x.den.length e3]) x ∧ IsF wx (.agg #[.bool y.neg, .slice a4 y.num.length e4, .slice a5 y.den.length e5]) y) ∧ Hid (Below W0.heap.size W0 wx))
  case first =>
    go_region_held3 (fun w' => w'.cell? ⟨w.heap.size, 0, none⟩ = some (.int .u8 (h : Int)) ∧ w'.cell? ⟨w.heap.size, 1, none⟩ = some (.slice pw ws.length cw) ∧ w'.cell? ⟨w.heap.size, 2, none⟩ = some (.int .u8 (r0 : Int)) ∧ w'.cell? ⟨w.heap.size, 3, none⟩ = some (.int .u8 (r1 : Int)) ∧ w'.cell? ⟨w.heap.size, 4, none⟩ = some (.int .u8 (b0 : Int)) ∧ w'.cell? ⟨w.heap.size, 5, none⟩ = some (.int .u8 (b1 : Int)))
      (first | (refine mkS.out _ ?_; repeat (first | with_reducible exact hk2 | with_reducible exact hk1 | with_reducible exact Below.refl _ _ | with_reducible refine below_dr ?_ | with_reducible refine held_alloc ?_ | with_reducible refine set8_keep ?_ hle)))
      (first
       | (go_at_call_of 9 r0; refine (part_c _ r0 r1 hr0 hr1).mono ?_; rw [HX.out]; rintro e wa ⟨v1, rfl, hv1, hb1⟩; obtain ⟨vx1, vx2, rfl, i1, i2⟩ := hv1; obtain ⟨a2, e2, rfl, _, _⟩ := i1.shape; obtain ⟨a3, e3, rfl, _, _⟩ := i2.shape; have CZ1 : Box wa W0.heap.size #[.slice none 0 0, .slice none 0 0, .bool false, .slice none 0 0, .slice none 0 0, .bool false, .slice none 0 0, .slice none 0 0] 32 := (after_new (below_of_drew hb1)).2; have hk1 : Below W0.heap.size W0 wa := (after_new (below_of_drew hb1)).1; obtain ⟨t0, t1, t2, t3, t4, t5⟩ := mkS.out _ hk1)
       | (go_at_call_of 9 r0; refine (part_c _ r0 r1 hr0 hr1).mono ?_; rw [HX.out]; rintro e wa ⟨v1, rfl, hv1, hb1⟩; obtain ⟨vx1, vx2, rfl, i1, i2⟩ := hv1; obtain ⟨a2, e2, rfl, _, _⟩ := i1.shape; obtain ⟨a3, e3, rfl, _, _⟩ := i2.shape; have hk1 : Below W0.heap.size W0 wa := below_of_drew hb1; obtain ⟨t0, t1, t2, t3, t4, t5⟩ := mkS.out _ hk1)
       | (go_at_call_of 9 b0; refine (part_c _ b0 b1 hb0' hb1').mono ?_; rw [HY.out]; rintro e wb ⟨v2, rfl, hv2, hb2⟩; obtain ⟨vy1, vy2, rfl, i3, i4⟩ := hv2; obtain ⟨a4, e4, rfl, _, _⟩ := i3.shape; obtain ⟨a5, e5, rfl, _, _⟩ := i4.shape; have hiy := IsF.at_ i3 i4; have CZ : Box wb W0.heap.size #[.slice none 0 0, .slice none 0 0, .bool false, .slice none 0 0, .slice none 0 0, .bool false, .slice none 0 0, .slice none 0 0] 32 := CZ1.after hb2; have hix := (IsF.at_ i1 i2).after hb2; have hk2 := hk1.trans (hb2.mono hk1.size); have hle : W0.heap.size ≤ W0.heap.size := Nat.le_refl _; obtain ⟨z0, z1, z2, z3, z4, z5, z6, z7⟩ := CZ.cells8; have f0 := CZ.frozen 0; have f1 := CZ.frozen 1; have f2 := CZ.frozen 2; have f3 := CZ.frozen 3; have f4 := CZ.frozen 4; have f5 := CZ.frozen 5; have f6 := CZ.frozen 6; have f7 := CZ.frozen 7; have zlt := CZ.lt)
       | (go_at_call_of 9 b0; refine (part_c _ b0 b1 hb0' hb1').mono ?_; rw [HY.out]; rintro e wb ⟨v2, rfl, hv2, hb2⟩; obtain ⟨vy1, vy2, rfl, i3, i4⟩ := hv2; obtain ⟨a4, e4, rfl, _, _⟩ := i3.shape; obtain ⟨a5, e5, rfl, _, _⟩ := i4.shape; have hiy := IsF.at_ i3 i4; have CZ : Box wb wa.heap.size #[.slice none 0 0, .slice none 0 0, .bool false, .slice none 0 0, .slice none 0 0, .bool false, .slice none 0 0, .slice none 0 0] 32 := (after_new hb2).2; have hix := (IsF.at_ i1 i2).after (after_new hb2).1; have hk2 := hk1.trans ((after_new hb2).1.mono hk1.size); have hle := hk1.size; obtain ⟨z0, z1, z2, z3, z4, z5, z6, z7⟩ := CZ.cells8; have f0 := CZ.frozen 0; have f1 := CZ.frozen 1; have f2 := CZ.frozen 2; have f3 := CZ.frozen 3; have f4 := CZ.frozen 4; have f5 := CZ.frozen 5; have f6 := CZ.frozen 6; have f7 := CZ.frozen 7; have zlt := CZ.lt)
       | (go_at_call_of 9 b0; refine (part_c _ b0 b1 hb0' hb1').mono ?_; rw [HY.out]; rintro e wb ⟨v2, rfl, hv2, hb2⟩; obtain ⟨vy1, vy2, rfl, i3, i4⟩ := hv2; obtain ⟨a4, e4, rfl, _, _⟩ := i3.shape; obtain ⟨a5, e5, rfl, _, _⟩ := i4.shape; have hiy := IsF.at_ i3 i4; have hix := (IsF.at_ i1 i2).after hb2; have hk2 := hk1.trans (hb2.mono hk1.size))
       | (fail))
    all_goals
      (go_wp2_with fail
       go_meet
       case rel =>
         first
         | (exact ⟨_, a2, a3, a4, a5, e2, e3, e4, e5, rfl, hle, Lib.hid (half_set CZ hix hiy), Lib.hid (set8_keep hk2 hle)⟩)
         | (exact ⟨_, a2, a3, a4, a5, e2, e3, e4, e5, rfl, hk2.size, Lib.hid (half_new hix hiy), Lib.hid (held_alloc hk2)⟩))
  case rest =>
  obtain ⟨B, a2, a3, a4, a5, e2, e3, e4, e5, rfl, hB, HH, hbc⟩ := hcut
  have hb := hbc.out
  replace HB := Lib.hid (HB.out.trans (hb.mono HB.out.size))
  replace BS := Lib.hid (BS.out.after hb)
  replace BR := Lib.hid (BR.out.after hb)
  replace HSW := Lib.hid (HSW.out.after hb)
  clear hb hbc mkS s0 s1 s2 s3 s4 s5
  obtain ⟨i0, hi, hz0, hz1, hz2⟩ := info_parts infoInt
  have hlm : maxLen = 9223372036854775807 := rfl
  have HLM := Lib.hid hlm
  clear hlm
  obtain ⟨CZ', hix, hiy⟩ := HH.out
  have CZ := Lib.hid CZ'
  have HIX := Lib.hid hix
  have HIY := Lib.hid hiy
  have hBl : B < wc.heap.size := CZ'.lt
  clear HH CZ' hix hiy
  go_wp2_with fail
  go_loopg [7] n (fun g t wx => ∃ (i : Nat) (j : Int), i ≤ n ∧ -1 ≤ j ∧ j < 16 ∧ g = n - i ∧ t = .int .i64 j ∧ Hid (j = (n : Int) - 1 - (i : Int)) ∧ Hid (Grow wc B (fun u => #[u, .slice none 0 0, .bool x.neg, .slice a2 x.num.length e2, .slice a3 x.den.length e3, .bool y.neg, .slice a4 y.num.length e4, .slice a5 y.den.length e5]) 32 ((hostsN n).take i) wx))
  case atStart => exact ⟨0, (n : Int) - 1, Nat.zero_le _, by omega, by omega, rfl, rfl, Lib.hid (by simp), Lib.hid ⟨none, 0, CZ.out, ⟨rfl, .inl ⟨rfl, rfl⟩⟩, Fx.refl _ _⟩⟩
  case round =>
    obtain ⟨i, j, hin, hj0, hj1, rfl, rfl, hj, hG⟩ := hrel
    by_cases hlt : 0 ≤ j
    · obtain ⟨l, hl, hll⟩ : ∃ l, Hid ((hostsN n).take i = l) ∧ Hid (l.length = i) := ⟨_, rfl, by show _ = _; rw [List.length_take, hostsN_len]; omega⟩
      rw [hl.out] at hG
      obtain ⟨p, c, hbo, hown, hf⟩ := hG.out
      obtain ⟨q0, q1, q2, q3, q4, q5, q6, q7⟩ := hbo.cells8
      have HBO := Lib.hid hbo
      have HOWN := Lib.hid hown
      have HF := Lib.hid hf
      have hsz := hf.size
      have hbl := hbo.lt
      clear hG hbo hown hf q1 q2 q3 q4 q5 q6 q7
      go_wp2_with (at_builtin; refine wpList_append_own _ rfl _ _ 26 rfl wc.heap.size 3 i0 (.int .i64 0) 1 8 Try.underlying26 hi hz0 hz1 hz2 rfl (by decide) _ _ _ rfl (HOWN.out.alloc _) ⟨wr.heap.size, 0, none⟩ 1 1 [.int .i64 j] rfl rfl cell_one (by intro u hu; simp at hu; subst hu; rfl) ?c4 ?c5 ?c6 ?_)
      case c4 => have := hll.out; rw [HLM.out]; omega
      case c5 => have := hll.out; omega
      case c6 => first | omega | (simp; omega)
      intro v' w5 hown' hgr _
      obtain ⟨b5, hG5⟩ := Grow.push (mk := (fun u => #[u, .slice none 0 0, .bool x.neg, .slice a2 x.num.length e2, .slice a3 x.den.length e3, .bool y.neg, .slice a4 y.num.length e4, .slice a5 y.den.length e5])) (f := 0) hBl (fun _ _ => by simp) HBO.out HOWN.out HF.out hown' hgr
      obtain ⟨q0', q1, q2, q3, q4, q5, q6, q7⟩ := b5.cells8
      have x0 := b5.frozen 0
      have b5l := b5.lt
      have HG5 : Hid (Grow wc B (fun u => #[u, .slice none 0 0, .bool x.neg, .slice a2 x.num.length e2, .slice a3 x.den.length e3, .bool y.neg, .slice a4 y.num.length e4, .slice a5 y.den.length e5]) 32 ((hostsN n).take (i + 1)) (w5.setCell ⟨B, 0, none⟩ v')) := by
        show Grow _ _ _ _ _ _
        have h1 := hostsN_take n i
        have h2 := hj.out
        rw [if_pos (by omega), hl.out, ← h2] at h1
        rw [← h1]
        exact hG5
      obtain ⟨p', c', rfl⟩ := ownsRow_shape hown'
      clear hown' hgr b5 hG5 q0 q1 q2 q3 q4 q5 q6 q7
      go_wp2_with fail
      go_roundg (n - (i + 1))
      case measure => have := hj.out; omega
      case rel => exact ⟨i + 1, j - 1, by have := hj.out; omega, by omega, by omega, rfl, rfl, Lib.hid (by have := hj.out; push_cast; omega), HG5⟩
    · obtain ⟨lh, hl, hll⟩ : ∃ lh, Hid (hostsN n = lh) ∧ Hid (lh.length = n) := ⟨_, rfl, hostsN_len n⟩
      have hti : (hostsN n).take i = lh := by
        have := hj.out
        rw [List.take_of_length_le (by rw [hostsN_len]; omega)]; exact hl.out
      rw [hti] at hG
      obtain ⟨p, c, hbo, hown, hf⟩ := hG.out
      have hbo : Box wr B ((fun u => #[.slice p lh.length c, u, .bool x.neg, .slice a2 x.num.length e2, .slice a3 x.den.length e3, .bool y.neg, .slice a4 y.num.length e4, .slice a5 y.den.length e5]) (.slice none 0 0)) 32 := hbo
      obtain ⟨W4, hW4⟩ : ∃ W4, W4 = wr := ⟨_, rfl⟩
      subst hW4
      have hdz := dull_var CZ.out
      have HL4 : Hid (SlI W4 (.slice p lh.length c) lh) := ⟨by
        intro z hz
        rw [← hl.out] at hz
        unfold hostsN at hz
        obtain ⟨k, hk, rfl⟩ := List.mem_map.1 hz
        rw [List.mem_range] at hk
        unfold In64; omega, (SlV.of_own hown).1⟩
      have HX4 := Lib.hid (HIX.out.fx hf hdz)
      have HY4 := Lib.hid (HIY.out.fx hf hdz)
      have hne1 : ¬ (w.heap.size = B) := by omega
      have hne2 : ¬ (w.heap.size + 1 = B) := by omega
      have BS4 := Lib.hid (BS.out.fx hf hne1)
      have BR4 := Lib.hid (BR.out.fx hf hne2)
      have HS4 := Lib.hid (HSW.out.fx hf (noU8 CZ.out))
      have HB4 := Lib.hid (HB.out.trans (hf.toBelow HB.out.size (fun g e => by rw [e]; omega)))
      have BO4 := Lib.hid hbo
      have hB4 : B < W4.heap.size := hbo.lt
      clear hG hti hown hf hbo hdz HIX HIY BS BR HSW HB CZ hj hBl
      go_wp2_with fail
      go_loopg [8, 9] (ws.length) (fun g t8 t9 wx => ∃ (i left : Nat) (l2 : List Int), i ≤ ws.length ∧ 1 ≤ left ∧ left ≤ 16 ∧ g = ws.length - i ∧ t8 = .int .i64 (left : Int) ∧ t9 = .int .i64 (i : Int) ∧ l2.length + left ≤ 17 ∧ Hid (l2 ++ wavesN left (ws.drop i) = wavesN n ws) ∧ Hid (Grow W4 B (fun u => #[.slice p lh.length c, u, .bool x.neg, .slice a2 x.num.length e2, .slice a3 x.den.length e3, .bool y.neg, .slice a4 y.num.length e4, .slice a5 y.den.length e5]) 32 l2 wx))
      case atStart => exact ⟨0, n, [], Nat.zero_le _, hn1, hn16, rfl, rfl, rfl, (by simp; omega), Lib.hid (by simp), Lib.hid ⟨none, 0, BO4.out, ⟨rfl, .inl ⟨rfl, rfl⟩⟩, Fx.refl _ _⟩⟩
      case round =>
        obtain ⟨i, left, l2, hin, hle1, hle16, rfl, rfl, rfl, hl2, hpre, hG⟩ := hrel
        obtain ⟨p1, c1, hbo, hown, hf⟩ := hG.out
        have hbs := BS4.out.fx hf hne1
        have s1 : wr.cell? ⟨w.heap.size, 1, none⟩ = some (.slice pw ws.length cw) := hbs.cell 1
        have hbo : Box wr B ((fun u => #[.slice p lh.length c, u, .bool x.neg, .slice a2 x.num.length e2, .slice a3 x.den.length e3, .bool y.neg, .slice a4 y.num.length e4, .slice a5 y.den.length e5]) (.slice p1 l2.length c1)) 32 := hbo
        obtain ⟨q0, q1, q2, q3, q4, q5, q6, q7⟩ := hbo.cells8
        have HBO := Lib.hid hbo
        have HOWN := Lib.hid hown
        have HF := Lib.hid hf
        have hsz := hf.size
        have hbl := hbo.lt
        have hsl := hbs.lt
        by_cases hgo : i < ws.length ∧ 1 < left
        · obtain ⟨hlt, hle⟩ := hgo
          have il : (i : Int) < (ws.length : Int) := by omega
          have ll : (1 : Int) < (left : Int) := by omega
          obtain ⟨zw, hzw⟩ : ∃ zw, ws[i]? = some zw := ⟨ws[i], List.getElem?_eq_getElem hlt⟩
          have hz256 : zw < 256 := HWS.out _ (List.mem_of_getElem? hzw)
          obtain ⟨ax, capx, hax, _, _, _, hcx⟩ := HS4.out.fx hf (noU8 BO4.out)
          obtain ⟨rfl, rfl⟩ : pw = ax ∧ cw = capx := by injection hax with e1 _ e3; exact ⟨e1, e3⟩
          obtain ⟨bw, ow, rfl, hbw, hcw⟩ := hcx (by rw [List.length_map]; omega)
          have hcell : wr.cell? ⟨bw, ow + i, none⟩ = some (.int .u8 (zw : Int)) := hcw i _ (by rw [List.getElem?_map, hzw]; rfl)
          obtain ⟨q, hq⟩ : ∃ q, zw % (left - 1) = q := ⟨_, rfl⟩
          have hqlt : q < left - 1 := by rw [← hq]; exact Nat.mod_lt _ (by omega)
          have hqz : (zw : Int) % ((left : Int) - 1) = (q : Int) := by
            have h1 : (left : Int) - 1 = ((left - 1 : Nat) : Int) := by omega
            rw [h1, ← hq]; rfl
          have hqk : (1 : Int) + (q : Int) = ((q + 1 : Nat) : Int) := by omega
          obtain ⟨k, hk⟩ : ∃ k, q + 1 = k := ⟨_, rfl⟩
          rw [hk] at hqk
          obtain ⟨left', hleft'⟩ : ∃ left', left - k = left' := ⟨_, rfl⟩
          have hlk : (left : Int) - (k : Int) = (left' : Int) := by omega
          have hl1 : ¬ ((left : Int) - 1 = 0) := by omega
          have HPRE : Hid ((l2 ++ [(k : Int)]) ++ wavesN left' (ws.drop (i + 1)) = wavesN n ws) := by
            have h1 := hpre.out
            have h2 : ws.drop i = zw :: ws.drop (i + 1) := by
              rw [List.drop_eq_getElem_cons hlt]
              have : ws[i] = zw := by
                rw [List.getElem?_eq_getElem hlt] at hzw; injection hzw
              rw [this]
            rw [h2, wavesN, if_pos hle, hqz, hqk, hq, show left - (1 + q) = left' from by omega] at h1
            show _ = _
            rw [← h1]; simp
          have HKF := Lib.hid (show 1 ≤ k ∧ 1 ≤ left' ∧ left' ≤ 16 ∧ k ≤ 16 from ⟨by omega, by omega, by omega, by omega⟩)
          have hk1 := HKF.out.1
          have hk2 := HKF.out.2.2.2
          have hlf := HKF.out.2.1
          have hlg := HKF.out.2.2.1
          clear hG hbo hown hf hbs hq hk hleft' hpre hcx hcw hax hzw q2 q3 q4 q5 q6 q7 q0 HKF
          go_wp2_with (at_builtin; refine wpList_append_own _ rfl _ _ 26 rfl W4.heap.size 3 i0 (.int .i64 0) 1 8 Try.underlying26 hi hz0 hz1 hz2 rfl (by decide) _ _ _ rfl (HOWN.out.alloc _) ⟨wr.heap.size, 0, none⟩ 1 1 [.int .i64 (k : Int)] rfl rfl cell_one (by intro u hu; simp at hu; subst hu; rfl) ?c4 ?c5 ?c6 ?_)
          case c4 => rw [HLM.out]; omega
          case c5 => omega
          case c6 => first | omega | (simp; omega)
          intro v' w5 hown' hgr _
          obtain ⟨b5, hG5⟩ := Grow.push (mk := (fun u => #[.slice p lh.length c, u, .bool x.neg, .slice a2 x.num.length e2, .slice a3 x.den.length e3, .bool y.neg, .slice a4 y.num.length e4, .slice a5 y.den.length e5])) (f := 1) hB4 (fun _ _ => by simp) HBO.out HOWN.out HF.out hown' hgr
          obtain ⟨q0', q1', q2, q3, q4, q5, q6, q7⟩ := b5.cells8
          have x0 := b5.frozen 1
          have b5l := b5.lt
          have HG5 := Lib.hid hG5
          obtain ⟨p', c', rfl⟩ := ownsRow_shape hown'
          clear hown' hgr b5 hG5 q0' q1 q2 q3 q4 q5 q6 q7 hcell s1
          go_wp2_with fail
          go_roundg (ws.length - (i + 1))
          case measure => omega
          case rel => exact ⟨i + 1, left', l2 ++ [(k : Int)], by omega, by omega, by omega, rfl, by go_num, by go_num, by simp; omega, HPRE, HG5⟩
        · have hwl : l2 ++ [(left : Int)] = wavesN n ws := by
            rw [← hpre.out, wavesN_last]
            by_cases h1 : i < ws.length
            · right; omega
            · left; exact List.drop_eq_nil_of_le (by omega)
          have HWL := Lib.hid hwl
          clear hwl
          have hgo' : ¬ ((i : Int) < (ws.length : Int)) ∨ ((i : Int) < (ws.length : Int) ∧ ¬ ((1 : Int) < (left : Int))) := by omega
          clear hG hbo hown hf hbs hpre q2 q3 q4 q5 q6 q7 q0 hgo
          rcases hgo' with hgo | ⟨hgo, hgo2⟩
          all_goals
            go_wp2_with (at_builtin; refine wpList_append_own _ rfl _ _ 26 rfl W4.heap.size 3 i0 (.int .i64 0) 1 8 Try.underlying26 hi hz0 hz1 hz2 rfl (by decide) _ _ _ rfl (HOWN.out.alloc _) ⟨wr.heap.size, 0, none⟩ 1 1 [.int .i64 (left : Int)] rfl rfl cell_one (by intro u hu; simp at hu; subst hu; rfl) ?c4 ?c5 ?c6 ?_)
            case c4 => rw [HLM.out]; omega
            case c5 => omega
            case c6 => first | omega | (simp; omega)
            intro v' w5 hown' hgr _
            obtain ⟨b5, hG5⟩ := Grow.push (mk := (fun u => #[.slice p lh.length c, u, .bool x.neg, .slice a2 x.num.length e2, .slice a3 x.den.length e3, .bool y.neg, .slice a4 y.num.length e4, .slice a5 y.den.length e5])) (f := 1) hB4 (fun _ _ => by simp) HBO.out HOWN.out HF.out hown' hgr
            obtain ⟨q0', q1', q2, q3, q4, q5, q6, q7⟩ := b5.cells8
            have x0 := b5.frozen 1
            have b5l := b5.lt
            rw [HWL.out] at hG5
            have hw64 := wavesN_in ws hn1 hn16
            obtain ⟨lw, hlw⟩ : ∃ lw, Hid (wavesN n ws = lw) := ⟨_, rfl⟩
            rw [hlw.out] at hG5 hw64
            have HW64 := Lib.hid hw64
            have HG5 := Lib.hid hG5
            obtain ⟨p', c', rfl⟩ := ownsRow_shape hown'
            clear hown' hgr b5 hG5 hw64 q0' q1 q2 q3 q4 q5 q6 q7 s1
            go_upto_region 15 with fail
            have hG6 := HG5.out
            obtain ⟨w6, h6⟩ : ∃ w6, w6 = w5.setCell ⟨B, 1, none⟩ (.slice p' (l2.length + 1) c') := ⟨_, rfl⟩
            rw [← h6] at hG6 ⊢
            obtain ⟨p2, c2, hbo6, hown6, hf6⟩ := hG6
            have hbo6 : Box w6 B ((fun u => #[.slice p lh.length c, u, .bool x.neg, .slice a2 x.num.length e2, .slice a3 x.den.length e3, .bool y.neg, .slice a4 y.num.length e4, .slice a5 y.den.length e5]) (.slice p2 lw.length c2)) 32 := hbo6
            have hdz := dull_var BO4.out
            have HR6 : Hid (IsR w6 (.agg #[.slice p lh.length c, .slice p2 lw.length c2, .bool x.neg, .slice a2 x.num.length e2, .slice a3 x.den.length e3, .bool y.neg, .slice a4 y.num.length e4, .slice a5 y.den.length e5]) ⟨lh, lw, x, y⟩) := IsR.ofParts (R := ⟨lh, lw, x, y⟩) (HL4.out.fx hf6 hdz) ⟨HW64.out, (SlV.of_own hown6).1⟩ (HX4.out.fx hf6 hdz) (HY4.out.fx hf6 hdz)
            have br6 := BR4.out.fx hf6 hne2
            have HB6 := Lib.hid (HB4.out.trans (hf6.toBelow HB4.out.size (fun g e => by rw [e]; omega)))
            obtain ⟨d0, d1, d2, d3, d4, d5, d6, d7⟩ := hbo6.cells8
            obtain ⟨m0, m1, m2, m3, m4, m5, m6, m7⟩ := br6.cells8
            have f0 := br6.frozen 0
            have f1 := br6.frozen 1
            have f2 := br6.frozen 2
            have f3 := br6.frozen 3
            have f4 := br6.frozen 4
            have f5 := br6.frozen 5
            have f6 := br6.frozen 6
            have f7 := br6.frozen 7
            have b6l := br6.lt
            have b6o := hbo6.lt
            have BR6 := Lib.hid br6
            clear HG5 h6 hbo6 hown6 hf6 hdz br6 HL4 HX4 HY4 BO4 BS4 BR4 HS4 HBO HOWN HF q1' x0 b5l
            go_wp2_with fail
            obtain ⟨g0, g1, g2, g3, g4, g5, g6, g7⟩ := (set8_box BR6.out (.slice p lh.length c) (.slice p2 lw.length c2) (.bool x.neg) (.slice a2 x.num.length e2) (.slice a3 x.den.length e3) (.bool y.neg) (.slice a4 y.num.length e4) (.slice a5 y.den.length e5)).cells8
            refine bodyPost_ret (v := .agg #[.slice p lh.length c, .slice p2 lw.length c2, .bool x.neg, .slice a2 x.num.length e2, .slice a3 x.den.length e3, .bool y.neg, .slice a4 y.num.length e4, .slice a5 y.den.length e5]) (by simp [results, Try.results8, go_sem, g0, g1, g2, g3, g4, g5, g6, g7]) rfl ?_
            have hg := set8_grown w6 (w.heap.size + 1) (.slice p lh.length c) (.slice p2 lw.length c2) (.bool x.neg) (.slice a2 x.num.length e2) (.slice a3 x.den.length e3) (.bool y.neg) (.slice a4 y.num.length e4) (.slice a5 y.den.length e5)
            have hf := (Fx.refl (fun g => g = w.heap.size + 1) w6).of hg rfl
            have hd := dull_ro BR6.out
            rw [HRES.out, hl.out, hlw.out]
            exact ⟨_, rfl, HR6.out.fx hf hd, HB6.out.trans (hf.toBelow HB6.out.size (fun g e => by rw [e]; omega))⟩
end Go.Proofs.Ytjjefdkadgkhfaa
