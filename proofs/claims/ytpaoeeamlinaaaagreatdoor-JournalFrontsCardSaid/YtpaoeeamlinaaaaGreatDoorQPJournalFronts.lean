/- JournalFronts: of any front of the lines of some records, Read gives the records whose lines are whole. It holds for all arguments; the arguments read afterwards as before. -/
import Derived.Test.YtpaoeeamlinaaaaGreatDoorQJL7
import Derived.Test.YtpaoeeamlinaaaaGreatDoorK12
import Derived.Test.YtpaoeeamlinaaaaGreatDoorQJA
import Derived.Test.YtpaoeeamlinaaaaGreatDoorCards
import Derived.Test.YtpaoeeamlinaaaaGreatDoorTie
import Derived.SevenTiedAt
import Derived.LaidMore
import Derived.Lay
import Derived.MakeChecks
import Derived.LaidHandle
import Derived.LaidLaws
import Derived.Stop.Joined
set_option linter.unusedVariables false
namespace Go.Proofs.YtpaoeeamlinaaaaGreatDoor
open Go.ChangeShapes Go.WideShapes Go.ChangeAt Go.RowKit

theorem u16_nat {n : Int} (h : (Lit.int .u16 n).wf = true) : ∃ m : Nat, n = m ∧ m < 65536 := by
  have h1 : IntKind.u16.min = 0 := rfl
  have h2 : IntKind.u16.max = 65535 := rfl
  simp [Lit.wf, h1, h2] at h
  exact ⟨n.toNat, by omega, by omega⟩

theorem journalFronts_met (os : Os) (args : Array Value) : laidMetH Tryz.prog Rows.journalFrontsRow.laid ((World.laidAll Tryz.prog os Rows.journalFrontsRow.laid).forCall (fun _ _ => 0) ⟨#[], args, []⟩).memory :=
  by rw [MakeChecks.laidMetH_plain _ _ _ (by kernel_rfl)]; exact laidMet_laidAll _ (by kernel_rfl) (by kernel_rfl)
set_option maxRecDepth 100000 in
theorem journalFronts_lifted (os : Os) (started : os.Started) (H : Type) (enc : TypeId × Value → H) :
    ReturnsInHanded {} Tryz.checked os 6 .any (fun w args => (Rows.journalFrontsSpec.pre enc Tryz.prog Tryz.f6 [] false w args ∧ laidMetH Tryz.prog Rows.journalFrontsRow.laid w) ∧ sizedMet enc Tryz.prog Tryz.f6 (OpenSpec.ofChange Rows.journalFrontsSpec) false w args) (Rows.journalFrontsSpec.post enc Tryz.prog Tryz.f6 false true false false) := by
  refine handed_laid_shaped (C := Tryz.checked) (X := fun w _ => laidMetH Tryz.prog Rows.journalFrontsRow.laid w) (fun _ _ _ hh h => h.of_heap hh) law_own started (by kernel_rfl) Tryz.func6
    (ChangeSpec.witness_shaped (enc := enc) (C := Tryz.checked) (os := os) (X := fun w _ => laidMetH Tryz.prog Rows.journalFrontsRow.laid w) false (World.laidAll Tryz.prog os Rows.journalFrontsRow.laid) #[.slice none 0 0, .int .u16 0] 8 (World.laidAll_os _ _ _) (World.shaped_of_ZipB (by kernel_rfl) (by kernel_rfl)) (by kernel_rfl) (by kernel_rfl) (by kernel_rfl) (journalFronts_met os _)) ?_
  intro W base args ds gs before hval0 hW hX hsh
  have henv : Env W := env_of hX hsh
  have hval : ∀ (j : Nat) t v, Tryz.f6.params[j]? = some t → args[j]? = some v → Value.okWide Tryz.prog W .any base t v := hval0
  have hW' := hW
  obtain ⟨p, q, hA0, hV, rfl, hfz, hnd⟩ := hW
  have hA : DataW.TrodAll enc Tryz.prog W 0 (fun _ => true) true Tryz.f6.params.toList args.toList ds p := hA0
  rw [Tryz.params6] at hA hval
  obtain ⟨v0, vs0, d0, ds0, p0, q0, hargs, rfl, rfl, h0, r0⟩ := trodAll_cons hA
  obtain ⟨v1, vs1, d1, ds1, p1, q1, rfl, rfl, rfl, h1, r1⟩ := trodAll_cons r0
  obtain ⟨rfl, rfl, rfl⟩ := trodAll_nil r1
  obtain rfl : args = #[v0, v1] := by cases args; simp_all
  obtain ⟨rs0, hr0⟩ := open_records (hval 0 38 v0 rfl rfl) h0
  obtain ⟨a1, rfl, rfl, rfl, w1⟩ := open_int Tryz.underlying45 (hval 1 45 v1 rfl rfl) h1
  obtain ⟨n1, rfl, b1⟩ := u16_nat w1
  refine (journalFronts_w W v0 rs0 n1 b1 hr0 henv).mono fun e W' ⟨he, hb⟩ => ?_
  subst he
  exact ⟨_, rfl, law_post law_laid (law_types (by kernel_rfl)) rfl (by kernel_rfl) Tryz.underlying4 rfl hW' hb⟩

/-- The row's statement. -/
theorem journalFronts_row : Rows.JournalFrontsSaid :=
  OpenClaim.holds_of_wide 6 Tryz.f6 rfl rfl rfl rfl rfl rfl rfl ⟨rfl, rfl, rfl, rfl, rfl⟩ rfl rfl rfl rfl rfl (by kernel_rfl) Tryz.func6 (by kernel_rfl)
    (of_decide_eq_true (by kernel_rfl)) (by unfold Func.isWrapper; first | (rw [if_pos (by decide +kernel)]; kernel_rfl) | (rw [if_neg (by decide +kernel)]; exact ⟨rfl, rfl⟩))
    (fun os started H enc _ => journalFronts_lifted os started H enc)
/-- The statement: the card, with what it lists tied to the program's text. -/
theorem journalFronts_holds : Rows.JournalFrontsCardSaid :=
  Claim7.holds_tied_plain_at .later [] [.data, .data, .data, .data, .sentinel, .sentinel, .widerDeep, .pinned] true (true, "833221419be538dff2941889cb2dfea4c9aa642cb01d1021bec542105247472c") true
    journalFronts_row (fun _ h => by cases h) (by kernel_rfl) (fun _ h => by cases h) journalFronts_row_tie rfl ⟨rfl, rfl⟩ (by kernel_rfl) rfl
    (fun f fn hf hfn => by
      obtain rfl : f = 6 := Option.some.inj ((show Tryz.prog.funcNamed "majordomo/majordomolaw27.JournalFronts" = some 6 by kernel_rfl).symm.trans hf) |>.symm
      obtain rfl : fn = Tryz.f6 := (Option.some.inj (Tryz.func6.symm.trans hfn)).symm
      exact ⟨by kernel_rfl, fun j t ht => by
        have hm : t ∈ Tryz.f6.params := Array.mem_of_getElem? ht
        have hall : (Tryz.f6.params.toList.all fun u => !Tryz.prog.wantsStandIn u) = true := by kernel_rfl
        exact (show Tryz.prog.wantsStandIn t = false by simpa using List.all_eq_true.1 hall t (Array.mem_toList_iff.2 hm))⟩)
    (by kernel_rfl)
#print axioms journalFronts_holds
end Go.Proofs.YtpaoeeamlinaaaaGreatDoor
