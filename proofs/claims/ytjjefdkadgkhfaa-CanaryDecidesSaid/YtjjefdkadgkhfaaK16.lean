/- Walks of package tails: above. -/
import Derived.Test.YtjjefdkadgkhfaaK15
import Derived.Deep.DeepCutAuto
set_option linter.unusedVariables false
namespace Go.Proofs.Ytjjefdkadgkhfaa
open Go.RowKit

/-- The closure that above returns: its four variables. -/
def IsAb (w : World) (f : Value) (n a c x y : Nat) : Prop := ∃ D S N B va vb c2 c9 c10, f = .func (.func 86) #[] #[.pointer (some ⟨D, 0, none⟩), .pointer (some ⟨S, 0, none⟩), .pointer (some ⟨N, 0, none⟩), .pointer (some ⟨B, 0, none⟩)] ∧
  VarF w D (Wh y) ∧ Box w S (spCells n va vb c2 c9 c10) 93 ∧ Sl w va (limbs ((a + c) ^ n)) ∧ Sl w vb (limbs 1) ∧ VarF w N (Wh x) ∧ VarF w B (fr false x y)
theorem IsAb.after {w w' : World} {f : Value} {n a c x y : Nat} (h : IsAb w f n a c x y) (hb : Below w.heap.size w w') : IsAb w' f n a c x y := by
  obtain ⟨D, S, N, B, va, vb, c2, c9, c10, e, h1, h2, h3, h4, h5, h6⟩ := h
  exact ⟨D, S, N, B, va, vb, c2, c9, c10, e, h1.after hb, h2.after hb, h3.after hb, h4.after hb, h5.after hb, h6.after hb⟩

theorem heap_alloc_push' (w : World) (o : Obj) : (w.alloc o).heap = w.heap.push o := rfl
theorem fourA {w : World} {o1 o2 o3 o4 : Obj} {B : Nat} (h : w.heap.size = B) : ((((w.alloc o1).alloc o2).alloc o3).alloc o4).heap[B]? = some o1 := by
  subst h
  rw [Below.heap_alloc _ _ _ (by simp <;> omega), Below.heap_alloc _ _ _ (by simp <;> omega), Below.heap_alloc _ _ _ (by simp)]
  exact heap_alloc_new w o1
theorem fourB {w : World} {o1 o2 o3 o4 : Obj} {B : Nat} (h : w.heap.size = B) : ((((w.alloc o1).alloc o2).alloc o3).alloc o4).heap[B + 1]? = some o2 := by
  subst h
  rw [Below.heap_alloc _ _ _ (by simp <;> omega), Below.heap_alloc _ _ _ (by simp)]
  have := heap_alloc_new (w.alloc o1) o2
  rwa [World.size_alloc] at this
theorem fourC {w : World} {o1 o2 o3 o4 : Obj} {B : Nat} (h : w.heap.size = B) : ((((w.alloc o1).alloc o2).alloc o3).alloc o4).heap[B + 1 + 1]? = some o3 := by
  subst h
  rw [Below.heap_alloc _ _ _ (by simp)]
  have := heap_alloc_new ((w.alloc o1).alloc o2) o3
  rwa [World.size_alloc, World.size_alloc] at this
theorem fourD {w : World} {o1 o2 o3 o4 : Obj} {B : Nat} (h : w.heap.size = B) : ((((w.alloc o1).alloc o2).alloc o3).alloc o4).heap[B + 1 + 1 + 1]? = some o4 := by
  subst h
  have := heap_alloc_new (((w.alloc o1).alloc o2).alloc o3) o4
  rwa [World.size_alloc, World.size_alloc, World.size_alloc] at this
theorem VarF.fourX {w0 w : World} {N : Nat} {a : Nat} {va : Value} {s : Nat} (hA : Sl w0 va (limbs a)) (hb : Below w0.heap.size w0 w) (h1 : w.heap[N]? = some (.cells #[.bool false, va, .slice (some ⟨s, 0, none⟩) 1 1] 30 (0, 0))) (h2 : w.heap[s]? = some (.cells #[.int .u32 1] 104 (0, 0))) : VarF w.drew N (Wh a) :=
  VarF.drew (VarF.lit (hA.after hb) rfl h1 h2)

set_option maxRecDepth 100000 in
set_option maxHeartbeats 16000000 in
theorem above_t (w : World) (u v : Value) (n a c x y : Nat) (hs : IsSp w u n a c) (h : IsF w v (fr false x y)) :
    Calls Try.prog 66 #[u, v] w fun e w' => ∃ f, e = .returned f ∧ IsAb w' f n a c x y ∧ Below w.heap.size w w' := by
  have HX := h
  obtain ⟨va, vb, rfl, h1, h2⟩ := h
  obtain ⟨p, cp, rfl, _, _⟩ := h1.shape
  obtain ⟨q, cq, rfl, _, _⟩ := h2.shape
  obtain ⟨ua, ub, c2, c9, c10, rfl, g1, g2, hpart⟩ := hs
  obtain ⟨p1, cp1, rfl, _, _⟩ := g1.shape
  obtain ⟨q1, cq1, rfl, _, _⟩ := g2.shape
  obtain ⟨W0, hW, bS, bx, hsz, hb0'⟩ : ∃ W0, W0 = (w.alloc (.cells #[.int .i64 (n : Int), .bool false, .slice p1 (limbs ((a + c) ^ n)).length cp1, .slice q1 (limbs 1).length cq1, .func (.func 70) #[] #[.pointer (some ⟨c2, 0, none⟩), .pointer (some ⟨c9, 0, none⟩), .pointer (some ⟨c10, 0, none⟩)]] 93)).alloc (.cells #[.bool (fr false x y).neg, .slice p (fr false x y).num.length cp, .slice q (fr false x y).den.length cq] 30) ∧ Box W0 w.heap.size #[.int .i64 (n : Int), .bool false, .slice p1 (limbs ((a + c) ^ n)).length cp1, .slice q1 (limbs 1).length cq1, .func (.func 70) #[] #[.pointer (some ⟨c2, 0, none⟩), .pointer (some ⟨c9, 0, none⟩), .pointer (some ⟨c10, 0, none⟩)]] 93 ∧ Box W0 (w.heap.size + 1) #[.bool (fr false x y).neg, .slice p (fr false x y).num.length cp, .slice q (fr false x y).den.length cq] 30 ∧ W0.heap.size = w.heap.size + 2 ∧ Below w.heap.size w W0 := by
    refine ⟨_, rfl, (Box.new w _ _).alloc _, ?_, by simp, held_alloc (held_alloc (Below.refl _ w))⟩
    have := (Box.new (w.alloc (.cells #[.int .i64 (n : Int), .bool false, .slice p1 (limbs ((a + c) ^ n)).length cp1, .slice q1 (limbs 1).length cq1, .func (.func 70) #[] #[.pointer (some ⟨c2, 0, none⟩), .pointer (some ⟨c9, 0, none⟩), .pointer (some ⟨c10, 0, none⟩)]] 93)) #[.bool (fr false x y).neg, .slice p (fr false x y).num.length cp, .slice q (fr false x y).den.length cq] 30)
    simpa using this
  obtain ⟨c0, c1, c2'⟩ := bx.cells3
  have H1 := Lib.hid (HX.after hb0')
  have HB0 := Lib.hid hb0'
  have BX := Lib.hid bx
  have BS := Lib.hid bS
  have G1 := Lib.hid (g1.after hb0')
  have G2 := Lib.hid (g2.after hb0')
  clear HX bx bS hb0' h1 h2 g1 g2 hpart
  go_enter Try.func66, Try.ntmps66
  go_upto_region 1 with fail
  rw [← hW]
  clear hW
  go_cut [5, 6] (fun sx sy wx => ∃ N D : Nat, sx = .pointer (some ⟨N, 0, none⟩) ∧ sy = .pointer (some ⟨D, 0, none⟩) ∧ W0.heap.size ≤ N ∧ W0.heap.size ≤ D ∧ VarF wx N (Wh x) ∧ VarF wx D (Wh y) ∧ Below W0.heap.size W0 wx)
  case first =>
    go_region_held3 (fun w' => w'.cell? ⟨w.heap.size + 1, 0, none⟩ = some (.bool (fr false x y).neg) ∧ w'.cell? ⟨w.heap.size + 1, 1, none⟩ = some (.slice p (fr false x y).num.length cp) ∧ w'.cell? ⟨w.heap.size + 1, 2, none⟩ = some (.slice q (fr false x y).den.length cq))
      (first | ((refine ⟨?_, ?_, ?_⟩ <;> simp [World.cell?_alloc_lt, hsz, c0, c1, c2']); done) | (go_keep; done)) (fail)
    all_goals
      have hA := (H1.out.parts).2.1
      have hB := (H1.out.parts).2.2
      go_wp2_with fail
      go_meet
      case rel =>
        refine ⟨_, _, rfl, rfl, by omega, by omega, ?_, ?_, below_dr (held_alloc (held_alloc (held_alloc (held_alloc (Below.refl _ W0)))))⟩
        · apply VarF.fourX hA (held_alloc (held_alloc (held_alloc (held_alloc (Below.refl _ W0)))))
          (first | with_reducible exact fourA hsz | with_reducible exact fourB hsz | with_reducible exact fourC hsz | with_reducible exact fourD hsz)
          (first | with_reducible exact fourA hsz | with_reducible exact fourB hsz | with_reducible exact fourC hsz | with_reducible exact fourD hsz)
        · apply VarF.fourX hB (held_alloc (held_alloc (held_alloc (held_alloc (Below.refl _ W0)))))
          (first | with_reducible exact fourA hsz | with_reducible exact fourB hsz | with_reducible exact fourC hsz | with_reducible exact fourD hsz)
          (first | with_reducible exact fourA hsz | with_reducible exact fourB hsz | with_reducible exact fourC hsz | with_reducible exact fourD hsz)
  case rest =>
    obtain ⟨N, D, rfl, rfl, hN, hD, hvN, hvD, hbc⟩ := hcut
    have HVN := Lib.hid hvN
    have HVD := Lib.hid hvD
    have HBC := Lib.hid hbc
    have HBS := Lib.hid (BS.out.after hbc)
    have HBX := Lib.hid (BX.out.after hbc)
    have HG1 := Lib.hid (G1.out.after hbc)
    have HG2 := Lib.hid (G2.out.after hbc)
    have HI := Lib.hid (H1.out.after hbc)
    have HW := Lib.hid (HB0.out.trans (hbc.mono HB0.out.size))
    clear hvN hvD hbc c0 c1 c2'
    go_wp2_with fail
    go_ret
    obtain ⟨_, i1, i2⟩ := HI.out.parts
    exact ⟨_, rfl, ⟨D, w.heap.size, N, w.heap.size + 1, _, _, c2, c9, c10, rfl, HVD.out, HBS.out, HG1.out, HG2.out, HVN.out, ⟨_, _, HBX.out, i1, i2⟩⟩, HW.out⟩
end Go.Proofs.Ytjjefdkadgkhfaa
