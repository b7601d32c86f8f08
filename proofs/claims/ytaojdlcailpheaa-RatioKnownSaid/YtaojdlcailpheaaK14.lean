/- Walks of package tails: above. -/
import Derived.Test.YtaojdlcailpheaaK13
import Derived.Deep.DeepCutAuto
set_option linter.unusedVariables false
namespace Go.Proofs.Ytaojdlcailpheaa
open Go.RowKit

theorem heap_alloc_push' (w : World) (o : Obj) : (w.alloc o).heap = w.heap.push o := rfl
theorem fourA {w : World} {o1 o2 o3 o4 : Obj} {B : Nat} (h : w.heap.size = B) : ((((w.alloc o1).alloc o2).alloc o3).alloc o4).heap[B]? = some o1 := by
  subst h
  rw [Below.heap_alloc _ _ _ (by simp <;> omega), Below.heap_alloc _ _ _ (by simp <;> omega), Below.heap_alloc _ _ _ (by simp)]
  exact heap_alloc_new w o1
theorem fourB {w : World} {o1 o2 o3 o4 : Obj} {B : Nat} (h : w.heap.size = B) : ((((w.alloc o1).alloc o2).alloc o3).alloc o4).heap[B + 1]? = some o2 := by
  subst h
  rw [Below.heap_alloc _ _ _ (by simp <;> omega), Below.heap_alloc _ _ _ (by simp)]
  have := heap_alloc_new (w.alloc o1) o2
  rwa [World.size_alloc] at this
theorem fourC {w : World} {o1 o2 o3 o4 : Obj} {B : Nat} (h : w.heap.size = B) : ((((w.alloc o1).alloc o2).alloc o3).alloc o4).heap[B + 1 + 1]? = some o3 := by
  subst h
  rw [Below.heap_alloc _ _ _ (by simp)]
  have := heap_alloc_new ((w.alloc o1).alloc o2) o3
  rwa [World.size_alloc, World.size_alloc] at this
theorem fourD {w : World} {o1 o2 o3 o4 : Obj} {B : Nat} (h : w.heap.size = B) : ((((w.alloc o1).alloc o2).alloc o3).alloc o4).heap[B + 1 + 1 + 1]? = some o4 := by
  subst h
  have := heap_alloc_new (((w.alloc o1).alloc o2).alloc o3) o4
  rwa [World.size_alloc, World.size_alloc, World.size_alloc] at this
theorem VarF.fourX {w0 w : World} {N : Nat} {a : Nat} {va : Value} {s : Nat} (hA : Sl w0 va (limbs a)) (hb : Below w0.heap.size w0 w) (h1 : w.heap[N]? = some (.cells #[.bool false, va, .slice (some ⟨s, 0, none⟩) 1 1] 25 (0, 0))) (h2 : w.heap[s]? = some (.cells #[.int .u32 1] 51 (0, 0))) : VarF w.drew N (Wh a) :=
  VarF.drew (VarF.lit (hA.after hb) rfl h1 h2)

end Go.Proofs.Ytaojdlcailpheaa
