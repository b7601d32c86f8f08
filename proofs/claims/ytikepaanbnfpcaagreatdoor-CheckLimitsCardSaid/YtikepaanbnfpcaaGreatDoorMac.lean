/- Ends of proofs that come often. -/
import Derived.Below
import Derived.BigFrameIn
import Derived.BigQuiet
import Derived.BigRegion
import Derived.ChangeArms
import Derived.Deep.CutBlock
import Derived.Deep.DeepCutAuto
import Derived.Deep.Draws
import Derived.Deep.LoopGhost
import Derived.Deep.OwnRows
import Derived.Deep.QuietTactic
import Derived.Deep.RegionHeld3
import Derived.Deep.RegionLaw
import Derived.Deep.RegionWith
import Derived.Deep.Slices
import Derived.HandedShaped
import Derived.LaidEql
import Derived.LaidHandle
import Derived.LaidLaws
import Derived.LaidMore
import Derived.Laws.EntriesVeiled
import Derived.Laws.IdiomCopy
import Derived.Laws.IdiomStrings
import Derived.Laws.MakeOwn
import Derived.Laws.NewBlocks
import Derived.Laws.StructEq
import Derived.Laws.World
import Derived.Lay
import Derived.Lib.AppendZerosOnto
import Derived.Lib.Atoi
import Derived.Lib.AtoiErrMem
import Derived.Lib.Bytealg
import Derived.Lib.Hide
import Derived.Lib.ItoaNum
import Derived.Lib.Join
import Derived.Lib.LaidTab
import Derived.Lib.Overlaps
import Derived.Lib.SliceRun
import Derived.Lib.SmallJoins
import Derived.Lib.Strings
import Derived.LoopIn
import Derived.LoopNIn
import Derived.MakeChecks
import Derived.Maps.AppendAt
import Derived.Maps.Own
import Derived.Maps.OwnOps
import Derived.Maps.OwnSet
import Derived.Maps.Views
import Derived.OpenShut
import Derived.OrdersIn
import Derived.OwnWalk
import Derived.OwnWalkIn
import Derived.ProofKit
import Derived.RangeFuncBound
import Derived.RangeFuncCalls
import Derived.RangeFuncLeaves
import Derived.RangeFuncNested
import Derived.RowKitTokens
import Derived.SevenTiedAt
import Derived.Shelf.Abstract
import Derived.Shelf.LaysC
import Derived.Shelf.LaysM
import Derived.Shelf.RegionOpenPlain
import Derived.Shelf.Slices.Clone
import Derived.Shelf.Slices.Empties
import Derived.Shelf.Slices.Empties2
import Derived.Shelf.Slices.Equal
import Derived.Shelf.Slices.SearchI
import Derived.Shelf.Small.Strs
import Derived.Shelf.Strconv.Atoi
import Derived.Shelf.Strconv.Clone
import Derived.Shelf.Strconv.Itoa3
import Derived.Shelf.Strings.OnBuilder
import Derived.Shelf.Strings.Prefix
import Derived.Shelf.Vars
import Derived.StillTailTactics
import Derived.Stop.Asserts
import Derived.Stop.Joined
import Derived.TacticsIn
import Derived.TacticsInMore
import Derived.WalkKit
import Derived.WalkLawsBesides
import Derived.WalkSpells
import Derived.WideKeyArgs
set_option linter.unusedVariables false
namespace Go.Proofs.YtikepaanbnfpcaaGreatDoor
open Go.RowKit
theorem Zh{p:Prop}(h:p):Hid p:=Lib.hid h
theorem Zq{w:World}{b o:Nat}{v:Value}(h:w.cell? ⟨b,o,none⟩=some v):b<w.heap.size:=World.block_lt_of_cell? _ _ h
theorem Zr{n:Nat}{w:World}:Below n w w:=Below.refl _ _
theorem Zg{α:Type}{l:List α}{i:Nat}(h:i<l.length):l[i]?=some l[i]:=List.getElem?_eq_getElem h
theorem Zd{α:Type}{l:List α}{i:Nat}{a:α}:l.getD i a=l[i]?.getD a:=List.getD_eq_getElem?_getD
theorem Zs:(∀{α β:Type}{a:α}{l:List α}{f:β→α→β}{b:β},(a::l).foldl f b=l.foldl f (f b a))∧(∀{α β:Type}{f:β→α→β}{b:β},([]:List α).foldl f b=b)∧(∀{α:Type}{l:List α}{i:Nat}{a:α},l.toArray.setIfInBounds i a=(l.set i a).toArray)∧(∀{α:Type}{a b:α}{l:List α},(a::l).set 0 b=b::l)∧(∀{α:Type}{a b:α}{l:List α}{n:Nat},(a::l).set (n+1) b=a::l.set n b):=⟨by intros;rfl,by intros;rfl,by intros;simp,by intros;rfl,by intros;rfl⟩
theorem Zk{W w':World}{b o:Nat}{x:Option Value}{v:Value}(hb:Below W.heap.size W w')(h:W.cell? ⟨b,o,none⟩=x)(e:x=some v):w'.cell? ⟨b,o,none⟩=some v∧b<w'.heap.size:=have hk:=(hb.cell (World.block_lt_of_cell? W ⟨b,o,none⟩ (h.trans e))).trans (h.trans e);⟨hk,World.block_lt_of_cell? _ _ hk⟩
theorem Zi0{x0:Value}{l:List Value}:(x0::l).toArray[0]?=some x0:=rfl
theorem Zi1{x0 x1:Value}{l:List Value}:(x0::x1::l).toArray[1]?=some x1:=rfl
theorem Zi2{x0 x1 x2:Value}{l:List Value}:(x0::x1::x2::l).toArray[2]?=some x2:=rfl
theorem Zi3{x0 x1 x2 x3:Value}{l:List Value}:(x0::x1::x2::x3::l).toArray[3]?=some x3:=rfl
theorem Zi4{x0 x1 x2 x3 x4:Value}{l:List Value}:(x0::x1::x2::x3::x4::l).toArray[4]?=some x4:=rfl
theorem Zi5{x0 x1 x2 x3 x4 x5:Value}{l:List Value}:(x0::x1::x2::x3::x4::x5::l).toArray[5]?=some x5:=rfl
theorem Zi6{x0 x1 x2 x3 x4 x5 x6:Value}{l:List Value}:(x0::x1::x2::x3::x4::x5::x6::l).toArray[6]?=some x6:=rfl
theorem Zi7{x0 x1 x2 x3 x4 x5 x6 x7:Value}{l:List Value}:(x0::x1::x2::x3::x4::x5::x6::x7::l).toArray[7]?=some x7:=rfl
theorem Zi8{x0 x1 x2 x3 x4 x5 x6 x7 x8:Value}{l:List Value}:(x0::x1::x2::x3::x4::x5::x6::x7::x8::l).toArray[8]?=some x8:=rfl
theorem Zi9{x0 x1 x2 x3 x4 x5 x6 x7 x8 x9:Value}{l:List Value}:(x0::x1::x2::x3::x4::x5::x6::x7::x8::x9::l).toArray[9]?=some x9:=rfl
theorem Zi10{x0 x1 x2 x3 x4 x5 x6 x7 x8 x9 x10:Value}{l:List Value}:(x0::x1::x2::x3::x4::x5::x6::x7::x8::x9::x10::l).toArray[10]?=some x10:=rfl
theorem Zi11{x0 x1 x2 x3 x4 x5 x6 x7 x8 x9 x10 x11:Value}{l:List Value}:(x0::x1::x2::x3::x4::x5::x6::x7::x8::x9::x10::x11::l).toArray[11]?=some x11:=rfl
theorem Zi12{x0 x1 x2 x3 x4 x5 x6 x7 x8 x9 x10 x11 x12:Value}{l:List Value}:(x0::x1::x2::x3::x4::x5::x6::x7::x8::x9::x10::x11::x12::l).toArray[12]?=some x12:=rfl
theorem Zi13{x0 x1 x2 x3 x4 x5 x6 x7 x8 x9 x10 x11 x12 x13:Value}{l:List Value}:(x0::x1::x2::x3::x4::x5::x6::x7::x8::x9::x10::x11::x12::x13::l).toArray[13]?=some x13:=rfl
theorem Zi14{x0 x1 x2 x3 x4 x5 x6 x7 x8 x9 x10 x11 x12 x13 x14:Value}{l:List Value}:(x0::x1::x2::x3::x4::x5::x6::x7::x8::x9::x10::x11::x12::x13::x14::l).toArray[14]?=some x14:=rfl
theorem Zi15{x0 x1 x2 x3 x4 x5 x6 x7 x8 x9 x10 x11 x12 x13 x14 x15:Value}{l:List Value}:(x0::x1::x2::x3::x4::x5::x6::x7::x8::x9::x10::x11::x12::x13::x14::x15::l).toArray[15]?=some x15:=rfl
theorem Zm{i n:Nat}(h:i<n):i∈List.range n:=List.mem_range.2 h

end Go.Proofs.YtikepaanbnfpcaaGreatDoor
