/- CheckLimits: the feeds of a limited site have the least limits; limiting twice is limiting once; without caps the site stays as it is. It holds for all arguments; the arguments read afterwards as before. -/
import Derived.Test.YtikepaanbnfpcaaGreatDoorK40
import Derived.Test.YtikepaanbnfpcaaGreatDoorK39
import Derived.Test.YtikepaanbnfpcaaGreatDoorCards
import Derived.Test.YtikepaanbnfpcaaGreatDoorTie
import Derived.SevenTiedAt
import Derived.LaidMore
import Derived.LaidHandle
import Derived.LaidLaws
import Derived.Stop.Joined
import Derived.Test.YtikepaanbnfpcaaGreatDoorMac
set_option linter.unusedVariables false
set_option linter.unusedSimpArgs false
set_option maxRecDepth 100000
set_option maxHeartbeats 16000000
namespace Go.Proofs.YtikepaanbnfpcaaGreatDoor
open Go.ChangeShapes Go.WideShapes Go.ChangeAt Go.RowKit
theorem checkLimits_met(os:Os)(args:Array Value):laidMetH Tryz.prog Rows.checkLimitsRow.laid ((ckW os laidC7).forCall (fun _ _=>0) ⟨#[],args,[]⟩).memory:=ck_met os args
theorem checkLimits_lifted(os:Os)(started:os.Started)(H:Type)(enc:TypeId×Value→H):ReturnsInHanded {} Tryz.checked os 3 .any (fun w args=>(Rows.checkLimitsSpec.pre enc Tryz.prog Tryz.f3 [] false w args∧laidMetH Tryz.prog Rows.checkLimitsRow.laid w)∧sizedMet enc Tryz.prog Tryz.f3 (OpenSpec.ofChange Rows.checkLimitsSpec) false w args) (Rows.checkLimitsSpec.post enc Tryz.prog Tryz.f3 false true false false):=by refine handed_laid_sized (C:=Tryz.checked) (X:=fun w _=>laidMetH Tryz.prog Rows.checkLimitsRow.laid w) (fun _ _ _ hh h=>h.of_heap hh) law_own started (by kernel_rfl) Tryz.func3 (ChangeSpec.witness_shaped (enc:=enc) (C:=Tryz.checked) (os:=os) (X:=fun w _=>laidMetH Tryz.prog Rows.checkLimitsRow.laid w) false (ckW os laidC7) #[.slice none 0 0,.slice none 0 0] 8 (ckW_os _ _) (ck_shaped os) (by kernel_rfl) (by kernel_rfl) (by kernel_rfl) (checkLimits_met os _)) ?_;intro W base args ds gs before hval0 hW hX hsh hwt;have henv:EnvK W:=envK_of hX;have hval:∀(j:Nat)t v,Tryz.f3.params[j]?=some t→args[j]?=some v→Value.okWide Tryz.prog W .any base t v:=hval0;have hW':=hW;obtain⟨p,q,hA0,hV,rfl,hfz,hnd⟩:=hW;have hA:DataW.TrodAll enc Tryz.prog W 0 (fun _=>true) true Tryz.f3.params.toList args.toList ds p:=hA0;rw[Tryz.params3]at hA hval;obtain⟨v0,vs0,d0,ds0,p0,q0,hargs,rfl,rfl,h0,r0⟩:=trodAll_cons hA;obtain⟨v1,vs1,d1,ds1,p1,q1,rfl,rfl,rfl,h1,r1⟩:=trodAll_cons r0;obtain⟨rfl,rfl,rfl⟩:=trodAll_nil r1;(obtain rfl:args=#[v0,v1]:=by cases args;simp_all);obtain⟨l0,hL0,hM0,hB0⟩:=open_feeds (hval 0 22 v0 rfl rfl) h0 (fun x hx=>hwt x (by show x∈DataW.weightsEach _ (_::_) (_::_);simp only[DataW.weightsEach,List.mem_append];exact .inl hx));obtain⟨l1,hL1,hM1,hB1⟩:=open_caps (hval 1 23 v1 rfl rfl) h1 (fun x hx=>hwt x (by show x∈DataW.weightsEach _ (_::_::_) (_::_::_);simp only[DataW.weightsEach,List.mem_append];exact .inr (.inl hx)));refine(checkLimits_w W _ _ l0 l1 hL0 hL1 hM0 hM1 henv).mono fun e W'⟨he,hb⟩=>?_;subst he;exact⟨_,rfl,law_post law_laid (law_types (by kernel_rfl)) rfl (by kernel_rfl) Tryz.underlying4 rfl hW' hb⟩
theorem checkLimits_row:Rows.CheckLimitsSaid:=OpenClaim.holds_of_wide 3 Tryz.f3 rfl rfl rfl rfl rfl rfl rfl ⟨rfl,rfl,rfl,rfl,rfl⟩ rfl rfl rfl rfl rfl (by kernel_rfl) Tryz.func3 (by kernel_rfl) (of_decide_eq_true (by kernel_rfl)) (by unfold Func.isWrapper;first|(rw[if_pos (by decide+kernel)];kernel_rfl)|(rw[if_neg (by decide+kernel)];exact⟨rfl,rfl⟩)) (fun os started H enc _=>checkLimits_lifted os started H enc)
theorem checkLimits_holds:Rows.CheckLimitsCardSaid:=Claim7.holds_tied_plain_at .later [] [.data,.data,.data,.handle,.sentinel,.sentinel,.widerDeep,.widerDeep] true (true,"afbf502c4ed3172a4608fb40ab5d30828feaf2484239064a58ac9bace9b64c07") true checkLimits_row (fun _ h=>by cases h) (by kernel_rfl) (fun _ h=>by cases h) checkLimits_row_tie rfl ⟨rfl,rfl⟩ (by kernel_rfl) rfl (fun f fn hf hfn=>by obtain rfl:f=3:=Option.some.inj ((show Tryz.prog.funcNamed "majordomo/majordomolaw03.CheckLimits"=some 3 by kernel_rfl).symm.trans hf)|>.symm;obtain rfl:fn=Tryz.f3:=(Option.some.inj (Tryz.func3.symm.trans hfn)).symm;exact⟨by kernel_rfl,fun j t ht=>by have hm:t∈Tryz.f3.params:=Array.mem_of_getElem? ht;(have hall:(Tryz.f3.params.toList.all fun u=>!Tryz.prog.wantsStandIn u)=true:=by kernel_rfl);exact(show Tryz.prog.wantsStandIn t=false by simpa using List.all_eq_true.1 hall t (Array.mem_toList_iff.2 hm))⟩) (by kernel_rfl)
#printaxioms checkLimits_holds
end Go.Proofs.YtikepaanbnfpcaaGreatDoor
