/- JournalKnown: the examples of the chapter have the results that it gives. It holds for all arguments; the arguments read afterwards as before. -/
import Derived.Test.YtpaoeeamlinaaaaGreatDoorQJL8
import Derived.Test.YtpaoeeamlinaaaaGreatDoorK12
import Derived.Test.YtpaoeeamlinaaaaGreatDoorCards
import Derived.Test.YtpaoeeamlinaaaaGreatDoorTie
import Derived.SevenTiedAt
import Derived.LaidMore
import Derived.Lay
import Derived.MakeChecks
import Derived.LaidHandle
import Derived.LaidLaws
import Derived.Stop.Joined
set_option linter.unusedVariables false
namespace Go.Proofs.YtpaoeeamlinaaaaGreatDoor
open Go.ChangeShapes Go.WideShapes Go.ChangeAt Go.RowKit

theorem journalKnown_met (os : Os) (args : Array Value) : laidMetH Tryz.prog Rows.journalKnownRow.laid ((World.laidAll Tryz.prog os Rows.journalKnownRow.laid).forCall (fun _ _ => 0) ⟨#[], args, []⟩).memory :=
  by rw [MakeChecks.laidMetH_plain _ _ _ (by kernel_rfl)]; exact laidMet_laidAll _ (by kernel_rfl) (by kernel_rfl)
set_option maxRecDepth 100000 in
theorem journalKnown_lifted (os : Os) (started : os.Started) (H : Type) (enc : TypeId × Value → H) :
    ReturnsInHanded {} Tryz.checked os 8 .any (fun w args => (Rows.journalKnownSpec.pre enc Tryz.prog Tryz.f8 [] false w args ∧ laidMetH Tryz.prog Rows.journalKnownRow.laid w) ∧ sizedMet enc Tryz.prog Tryz.f8 (OpenSpec.ofChange Rows.journalKnownSpec) false w args) (Rows.journalKnownSpec.post enc Tryz.prog Tryz.f8 false true false false) := by
  refine handed_laid_shaped (C := Tryz.checked) (X := fun w _ => laidMetH Tryz.prog Rows.journalKnownRow.laid w) (fun _ _ _ hh h => h.of_heap hh) law_own started (by kernel_rfl) Tryz.func8
    (ChangeSpec.witness_shaped (enc := enc) (C := Tryz.checked) (os := os) (X := fun w _ => laidMetH Tryz.prog Rows.journalKnownRow.laid w) false (World.laidAll Tryz.prog os Rows.journalKnownRow.laid) #[] 8 (World.laidAll_os _ _ _) (World.shaped_of_ZipB (by kernel_rfl) (by kernel_rfl)) (by kernel_rfl) (by kernel_rfl) (by kernel_rfl) (journalKnown_met os _)) ?_
  intro W base args ds gs before hval0 hW hX hsh
  have henv : Env W := env_of hX hsh
  have hval : ∀ (j : Nat) t v, Tryz.f8.params[j]? = some t → args[j]? = some v → Value.okWide Tryz.prog W .any base t v := hval0
  have hW' := hW
  obtain ⟨p, q, hA0, hV, rfl, hfz, hnd⟩ := hW
  have hA : DataW.TrodAll enc Tryz.prog W 0 (fun _ => true) true Tryz.f8.params.toList args.toList ds p := hA0
  obtain ⟨hargs, rfl, rfl⟩ := trodAll_nil (show DataW.TrodAll enc Tryz.prog W 0 (fun _ => true) true [] args.toList ds p from hA)
  obtain rfl : args = #[] := by cases args; simp_all
  refine (journalKnown_w W henv).mono fun e W' ⟨he, hb⟩ => ?_
  subst he
  exact ⟨_, rfl, law_post law_laid (law_types (by kernel_rfl)) rfl (by kernel_rfl) Tryz.underlying4 rfl hW' hb⟩

/-- The row's statement. -/
theorem journalKnown_row : Rows.JournalKnownSaid :=
  OpenClaim.holds_of_wide 8 Tryz.f8 rfl rfl rfl rfl rfl rfl rfl ⟨rfl, rfl, rfl, rfl, rfl⟩ rfl rfl rfl rfl rfl (by kernel_rfl) Tryz.func8 (by kernel_rfl)
    (of_decide_eq_true (by kernel_rfl)) (by unfold Func.isWrapper; first | (rw [if_pos (by decide +kernel)]; kernel_rfl) | (rw [if_neg (by decide +kernel)]; exact ⟨rfl, rfl⟩))
    (fun os started H enc _ => journalKnown_lifted os started H enc)
/-- The statement: the card, with what it lists tied to the program's text. -/
theorem journalKnown_holds : Rows.JournalKnownCardSaid :=
  Claim7.holds_tied_plain_at .later [] [.data, .data, .data, .data, .sentinel, .sentinel, .widerDeep, .pinned] true (true, "833221419be538dff2941889cb2dfea4c9aa642cb01d1021bec542105247472c") true
    journalKnown_row (fun _ h => by cases h) (by kernel_rfl) (fun _ h => by cases h) journalKnown_row_tie rfl ⟨rfl, rfl⟩ (by kernel_rfl) rfl
    (fun f fn hf hfn => by
      obtain rfl : f = 8 := Option.some.inj ((show Tryz.prog.funcNamed "majordomo/majordomolaw27.JournalKnown" = some 8 by kernel_rfl).symm.trans hf) |>.symm
      obtain rfl : fn = Tryz.f8 := (Option.some.inj (Tryz.func8.symm.trans hfn)).symm
      exact ⟨by kernel_rfl, fun j t ht => by
        have hm : t ∈ Tryz.f8.params := Array.mem_of_getElem? ht
        have hall : (Tryz.f8.params.toList.all fun u => !Tryz.prog.wantsStandIn u) = true := by kernel_rfl
        exact (show Tryz.prog.wantsStandIn t = false by simpa using List.all_eq_true.1 hall t (Array.mem_toList_iff.2 hm))⟩)
    (by kernel_rfl)
#print axioms journalKnown_holds
end Go.Proofs.YtpaoeeamlinaaaaGreatDoor
