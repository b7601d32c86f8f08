/- SyntaxKnown: some examples, and errors at their offsets. It holds for all arguments; the arguments read afterwards as before. -/
import Derived.Test.YtganlldidjbpiaaGreatDoorQSyL6
import Derived.Test.YtganlldidjbpiaaGreatDoorK27
import Derived.Test.YtganlldidjbpiaaGreatDoorCards
import Derived.Test.YtganlldidjbpiaaGreatDoorTie
import Derived.SevenTiedAt
import Derived.LaidMore
import Derived.Lay
import Derived.MakeChecks
import Derived.LaidHandle
import Derived.LaidLaws
import Derived.Stop.Joined
set_option linter.unusedVariables false
namespace Go.Proofs.YtganlldidjbpiaaGreatDoor
open Go.ChangeShapes Go.WideShapes Go.ChangeAt Go.RowKit

theorem syntaxKnown_met (os : Os) (args : Array Value) : laidMetH Tryz.prog Rows.syntaxKnownRow.laid ((World.laidAll Tryz.prog os Rows.syntaxKnownRow.laid).forCall (fun _ _ => 0) ⟨#[], args, []⟩).memory :=
  by rw [MakeChecks.laidMetH_plain _ _ _ (by kernel_rfl)]; exact laidMet_laidAll _ (by kernel_rfl) (by kernel_rfl)
set_option maxRecDepth 100000 in
theorem syntaxKnown_lifted (os : Os) (started : os.Started) (H : Type) (enc : TypeId × Value → H) :
    ReturnsInHanded {} Tryz.checked os 9 .any (fun w args => (Rows.syntaxKnownSpec.pre enc Tryz.prog Tryz.f9 [] false w args ∧ laidMetH Tryz.prog Rows.syntaxKnownRow.laid w) ∧ sizedMet enc Tryz.prog Tryz.f9 (OpenSpec.ofChange Rows.syntaxKnownSpec) false w args) (Rows.syntaxKnownSpec.post enc Tryz.prog Tryz.f9 false true false false) := by
  refine handed_laid_shaped (C := Tryz.checked) (X := fun w _ => laidMetH Tryz.prog Rows.syntaxKnownRow.laid w) (fun _ _ _ hh h => h.of_heap hh) law_own started (by kernel_rfl) Tryz.func9
    (ChangeSpec.witness_shaped (enc := enc) (C := Tryz.checked) (os := os) (X := fun w _ => laidMetH Tryz.prog Rows.syntaxKnownRow.laid w) false (World.laidAll Tryz.prog os Rows.syntaxKnownRow.laid) #[] 8 (World.laidAll_os _ _ _) (World.shaped_of_ZipB (by kernel_rfl) (by kernel_rfl)) (by kernel_rfl) (by kernel_rfl) (by kernel_rfl) (syntaxKnown_met os _)) ?_
  intro W base args ds gs before hval0 hW hX hsh
  have henv : Env W := env_of hX hsh
  have hval : ∀ (j : Nat) t v, Tryz.f9.params[j]? = some t → args[j]? = some v → Value.okWide Tryz.prog W .any base t v := hval0
  have hW' := hW
  obtain ⟨p, q, hA0, hV, rfl, hfz, hnd⟩ := hW
  have hA : DataW.TrodAll enc Tryz.prog W 0 (fun _ => true) true Tryz.f9.params.toList args.toList ds p := hA0
  obtain ⟨hargs, rfl, rfl⟩ := trodAll_nil (show DataW.TrodAll enc Tryz.prog W 0 (fun _ => true) true [] args.toList ds p from hA)
  obtain rfl : args = #[] := by cases args; simp_all
  refine (syntaxKnown_w W.heap.size W (Nat.le_refl _) henv.1 henv.2).mono fun e W' ⟨he, hb⟩ => ?_
  subst he
  exact ⟨_, rfl, law_post law_laid (law_types (by kernel_rfl)) rfl (by kernel_rfl) Tryz.underlying4 rfl hW' hb⟩

/-- The row's statement. -/
theorem syntaxKnown_row : Rows.SyntaxKnownSaid :=
  OpenClaim.holds_of_wide 9 Tryz.f9 rfl rfl rfl rfl rfl rfl rfl ⟨rfl, rfl, rfl, rfl, rfl⟩ rfl rfl rfl rfl rfl (by kernel_rfl) Tryz.func9 (by kernel_rfl)
    (of_decide_eq_true (by kernel_rfl)) (by unfold Func.isWrapper; first | (rw [if_pos (by decide +kernel)]; kernel_rfl) | (rw [if_neg (by decide +kernel)]; exact ⟨rfl, rfl⟩))
    (fun os started H enc _ => syntaxKnown_lifted os started H enc)
/-- The statement: the card, with what it lists tied to the program's text. -/
theorem syntaxKnown_holds : Rows.SyntaxKnownCardSaid :=
  Claim7.holds_tied_plain_at .later [] [.data, .data, .data, .sentinel, .sentinel, .widerDeep, .widerDeep, .widerDeep] true (true, "eb035dc2cc8176d7fc193c0ae9ecaca1772d1fac8e80549f0143962e364bf5fc") true
    syntaxKnown_row (fun _ h => by cases h) (by kernel_rfl) (fun _ h => by cases h) syntaxKnown_row_tie rfl ⟨rfl, rfl⟩ (by kernel_rfl) rfl
    (fun f fn hf hfn => by
      obtain rfl : f = 9 := Option.some.inj ((show Tryz.prog.funcNamed "majordomo/majordomolaw02.SyntaxKnown" = some 9 by kernel_rfl).symm.trans hf) |>.symm
      obtain rfl : fn = Tryz.f9 := (Option.some.inj (Tryz.func9.symm.trans hfn)).symm
      exact ⟨by kernel_rfl, fun j t ht => by
        have hm : t ∈ Tryz.f9.params := Array.mem_of_getElem? ht
        have hall : (Tryz.f9.params.toList.all fun u => !Tryz.prog.wantsStandIn u) = true := by kernel_rfl
        exact (show Tryz.prog.wantsStandIn t = false by simpa using List.all_eq_true.1 hall t (Array.mem_toList_iff.2 hm))⟩)
    (by kernel_rfl)
#print axioms syntaxKnown_holds
end Go.Proofs.YtganlldidjbpiaaGreatDoor
