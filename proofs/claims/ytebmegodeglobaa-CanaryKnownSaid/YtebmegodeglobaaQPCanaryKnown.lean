/- CanaryKnown: the examples, limits and errors. It holds for all arguments; the arguments read afterwards as before. -/
import Derived.Test.YtebmegodeglobaaQG9
import Derived.Test.YtebmegodeglobaaK22
set_option linter.unusedVariables false
namespace Go.Proofs.Ytebmegodeglobaa
open Go.ChangeShapes Go.WideShapes Go.ChangeAt Go.RowKit

set_option maxRecDepth 100000 in
theorem canaryKnown_lifted (os : Os) (started : os.Started) (H : Type) (enc : TypeId × Value → H) :
    ReturnsInHanded {} Try.checked os 3 .any (Rows.canaryKnownSpec.pre6 enc Try.prog Try.f3 Rows.canaryKnownRow.domain false) (Rows.canaryKnownSpec.post enc Try.prog Try.f3 false true false false) := by
  refine returnsInHanded_of_change (C := Try.checked) law_own started (by kernel_rfl) Try.func3
    (ChangeSpec.witness6 (enc := enc) (C := Try.checked) false ⟨#[], #[], []⟩ 8 (by kernel_rfl) (by kernel_rfl) (by kernel_rfl) (by kernel_rfl)) ?_
  intro W base args ds gs before hval0 hW hcnd _
  have hval : ∀ (j : Nat) t v, Try.f3.params[j]? = some t → args[j]? = some v → Value.okWide Try.prog W .any base t v := hval0
  have hW' := hW
  obtain ⟨p, q, hA0, hV, rfl, hfz, hnd⟩ := hW
  have hA : DataW.TrodAll enc Try.prog W 0 (fun _ => true) true Try.f3.params.toList args.toList ds p := hA0
  obtain ⟨hargs, rfl, rfl⟩ := trodAll_nil (show DataW.TrodAll enc Try.prog W 0 (fun _ => true) true [] args.toList ds p from hA)
  obtain rfl : args = #[] := by cases args; simp_all
  refine (canaryKnown_c W).mono fun e W' ⟨he, hb⟩ => ?_
  subst he
  exact ⟨_, rfl, law_post law_laid (law_types (by kernel_rfl)) rfl (by kernel_rfl) Try.underlying4 rfl hW' hb⟩

/-- The statement. -/
theorem canaryKnown_holds : Rows.CanaryKnownSaid :=
  OpenClaim.holds_of_wide 3 Try.f3 rfl rfl rfl rfl rfl rfl rfl ⟨rfl, rfl, rfl, rfl, rfl⟩ rfl rfl rfl rfl rfl (by kernel_rfl) Try.func3 (by kernel_rfl)
    (of_decide_eq_true (by kernel_rfl)) (by unfold Func.isWrapper; first | (rw [if_pos (by decide +kernel)]; kernel_rfl) | (rw [if_neg (by decide +kernel)]; exact ⟨rfl, rfl⟩))
    (fun os started H enc _ => canaryKnown_lifted os started H enc)
#print axioms canaryKnown_holds
end Go.Proofs.Ytebmegodeglobaa
