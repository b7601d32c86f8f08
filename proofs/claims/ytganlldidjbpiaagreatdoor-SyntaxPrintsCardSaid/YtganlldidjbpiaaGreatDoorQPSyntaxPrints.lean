/- SyntaxPrints: Print, Same and Formed return what the document specifies, for at most 2000 clauses and names. It holds for all arguments; the arguments read afterwards as before. -/
import Derived.Test.YtganlldidjbpiaaGreatDoorQSyL8
import Derived.Test.YtganlldidjbpiaaGreatDoorK25
import Derived.Test.YtganlldidjbpiaaGreatDoorQSyAr
import Derived.Test.YtganlldidjbpiaaGreatDoorCards
import Derived.Test.YtganlldidjbpiaaGreatDoorTie
import Derived.SevenTiedAt
import Derived.LaidMore
import Derived.Lay
import Derived.MakeChecks
import Derived.LaidHandle
import Derived.LaidLaws
import Derived.Stop.Joined
set_option linter.unusedVariables false
namespace Go.Proofs.YtganlldidjbpiaaGreatDoor
open Go.ChangeShapes Go.WideShapes Go.ChangeAt Go.RowKit

theorem syntaxPrints_met (os : Os) (args : Array Value) : laidMetH Tryz.prog Rows.syntaxPrintsRow.laid ((World.laidAll Tryz.prog os Rows.syntaxPrintsRow.laid).forCall (fun _ _ => 0) ⟨#[], args, []⟩).memory :=
  by rw [MakeChecks.laidMetH_plain _ _ _ (by kernel_rfl)]; exact laidMet_laidAll _ (by kernel_rfl) (by kernel_rfl)
set_option maxRecDepth 100000 in
theorem syntaxPrints_lifted (os : Os) (started : os.Started) (H : Type) (enc : TypeId × Value → H) :
    ReturnsInHanded {} Tryz.checked os 4 .any (fun w args => (Rows.syntaxPrintsSpec.pre enc Tryz.prog Tryz.f4 [] false w args ∧ laidMetH Tryz.prog Rows.syntaxPrintsRow.laid w) ∧ sizedMet enc Tryz.prog Tryz.f4 (OpenSpec.ofChange Rows.syntaxPrintsSpec) false w args) (Rows.syntaxPrintsSpec.post enc Tryz.prog Tryz.f4 false true false false) := by
  refine handed_laid_sized (C := Tryz.checked) (X := fun w _ => laidMetH Tryz.prog Rows.syntaxPrintsRow.laid w) (fun _ _ _ hh h => h.of_heap hh) law_own started (by kernel_rfl) Tryz.func4
    (ChangeSpec.witness_shaped (enc := enc) (C := Tryz.checked) (os := os) (X := fun w _ => laidMetH Tryz.prog Rows.syntaxPrintsRow.laid w) false (World.laidAll Tryz.prog os Rows.syntaxPrintsRow.laid) #[.slice none 0 0, .slice none 0 0] 8 (World.laidAll_os _ _ _) (World.shaped_of_ZipB (by kernel_rfl) (by kernel_rfl)) (by kernel_rfl) (by kernel_rfl) (by kernel_rfl) (syntaxPrints_met os _)) ?_
  intro W base args ds gs before hval0 hW hX hsh hwt
  have henv : Env W := env_of hX hsh
  have hval : ∀ (j : Nat) t v, Tryz.f4.params[j]? = some t → args[j]? = some v → Value.okWide Tryz.prog W .any base t v := hval0
  have hW' := hW
  obtain ⟨p, q, hA0, hV, rfl, hfz, hnd⟩ := hW
  have hA : DataW.TrodAll enc Tryz.prog W 0 (fun _ => true) true Tryz.f4.params.toList args.toList ds p := hA0
  rw [Tryz.params4] at hA hval
  obtain ⟨v0, vs0, d0, ds0, p0, q0, hargs, rfl, rfl, h0, r0⟩ := trodAll_cons hA
  obtain ⟨v1, vs1, d1, ds1, p1, q1, rfl, rfl, rfl, h1, r1⟩ := trodAll_cons r0
  obtain ⟨rfl, rfl, rfl⟩ := trodAll_nil r1
  obtain rfl : args = #[v0, v1] := by cases args; simp_all
  obtain ⟨cl0, hC0, hB0⟩ := open_clauses (hval 0 22 v0 rfl rfl) h0 (fun x hx => hwt x (by show x ∈ DataW.weightsEach _ (_ :: _) (_ :: _); simp only [DataW.weightsEach, List.mem_append]; exact .inl hx))
  obtain ⟨cl1, hC1, hB1⟩ := open_clauses (hval 1 22 v1 rfl rfl) h1 (fun x hx => hwt x (by show x ∈ DataW.weightsEach _ (_ :: _ :: _) (_ :: _ :: _); simp only [DataW.weightsEach, List.mem_append]; exact .inr (.inl hx)))
  refine (syntaxPrints_w W.heap.size W v0 v1 cl0 cl1 hC0 hC1 hB0 (Nat.le_refl _) henv.1 henv.2).mono fun e W' ⟨he, hb⟩ => ?_
  subst he
  exact ⟨_, rfl, law_post law_laid (law_types (by kernel_rfl)) rfl (by kernel_rfl) Tryz.underlying4 rfl hW' hb⟩

/-- The row's statement. -/
theorem syntaxPrints_row : Rows.SyntaxPrintsSaid :=
  OpenClaim.holds_of_wide 4 Tryz.f4 rfl rfl rfl rfl rfl rfl rfl ⟨rfl, rfl, rfl, rfl, rfl⟩ rfl rfl rfl rfl rfl (by kernel_rfl) Tryz.func4 (by kernel_rfl)
    (of_decide_eq_true (by kernel_rfl)) (by unfold Func.isWrapper; first | (rw [if_pos (by decide +kernel)]; kernel_rfl) | (rw [if_neg (by decide +kernel)]; exact ⟨rfl, rfl⟩))
    (fun os started H enc _ => syntaxPrints_lifted os started H enc)
/-- The statement: the card, with what it lists tied to the program's text. -/
theorem syntaxPrints_holds : Rows.SyntaxPrintsCardSaid :=
  Claim7.holds_tied_plain_at .later [] [.data, .data, .data, .sentinel, .sentinel, .widerDeep, .widerDeep, .widerDeep] true (true, "eb035dc2cc8176d7fc193c0ae9ecaca1772d1fac8e80549f0143962e364bf5fc") true
    syntaxPrints_row (fun _ h => by cases h) (by kernel_rfl) (fun _ h => by cases h) syntaxPrints_row_tie rfl ⟨rfl, rfl⟩ (by kernel_rfl) rfl
    (fun f fn hf hfn => by
      obtain rfl : f = 4 := Option.some.inj ((show Tryz.prog.funcNamed "majordomo/majordomolaw02.SyntaxPrints" = some 4 by kernel_rfl).symm.trans hf) |>.symm
      obtain rfl : fn = Tryz.f4 := (Option.some.inj (Tryz.func4.symm.trans hfn)).symm
      exact ⟨by kernel_rfl, fun j t ht => by
        have hm : t ∈ Tryz.f4.params := Array.mem_of_getElem? ht
        have hall : (Tryz.f4.params.toList.all fun u => !Tryz.prog.wantsStandIn u) = true := by kernel_rfl
        exact (show Tryz.prog.wantsStandIn t = false by simpa using List.all_eq_true.1 hall t (Array.mem_toList_iff.2 hm))⟩)
    (by kernel_rfl)
#print axioms syntaxPrints_holds
end Go.Proofs.YtganlldidjbpiaaGreatDoor
