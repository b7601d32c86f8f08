/- Ends of proofs that come often. -/
import Derived.Below
import Derived.BigFrameIn
import Derived.BigQuiet
import Derived.BigRegion
import Derived.ChangeArms
import Derived.Deep.CutBlock
import Derived.Deep.DeepCutAuto
import Derived.Deep.Draws
import Derived.Deep.LoopGhost
import Derived.Deep.OwnRows
import Derived.Deep.QuietTactic
import Derived.Deep.RegionHeld3
import Derived.Deep.RegionLaw
import Derived.Deep.RegionWith
import Derived.Deep.Slices
import Derived.HandedShaped
import Derived.LaidEql
import Derived.LaidHandle
import Derived.LaidLaws
import Derived.LaidMore
import Derived.Laws.EntriesVeiled
import Derived.Laws.IdiomCopy
import Derived.Laws.IdiomStrings
import Derived.Laws.MakeOwn
import Derived.Laws.NewBlocks
import Derived.Laws.StructEq
import Derived.Laws.World
import Derived.Lay
import Derived.Lib.AppendZerosOnto
import Derived.Lib.Atoi
import Derived.Lib.AtoiErrMem
import Derived.Lib.Bytealg
import Derived.Lib.Hide
import Derived.Lib.ItoaNum
import Derived.Lib.Join
import Derived.Lib.LaidTab
import Derived.Lib.Overlaps
import Derived.Lib.SliceRun
import Derived.Lib.SmallJoins
import Derived.Lib.Strings
import Derived.LoopIn
import Derived.LoopNIn
import Derived.MakeChecks
import Derived.Maps.AppendAt
import Derived.Maps.Own
import Derived.Maps.OwnOps
import Derived.Maps.OwnSet
import Derived.Maps.Views
import Derived.OpenShut
import Derived.OrdersIn
import Derived.OwnWalk
import Derived.OwnWalkIn
import Derived.ProofKit
import Derived.RangeFuncBound
import Derived.RangeFuncCalls
import Derived.RangeFuncLeaves
import Derived.RangeFuncNested
import Derived.RowKitTokens
import Derived.SevenTiedAt
import Derived.Shelf.Abstract
import Derived.Shelf.LaysC
import Derived.Shelf.LaysM
import Derived.Shelf.RegionOpenPlain
import Derived.Shelf.Slices.Clone
import Derived.Shelf.Slices.Empties
import Derived.Shelf.Slices.Empties2
import Derived.Shelf.Slices.Equal
import Derived.Shelf.Slices.SearchI
import Derived.Shelf.Small.Strs
import Derived.Shelf.Strconv.Atoi
import Derived.Shelf.Strconv.Clone
import Derived.Shelf.Strconv.Itoa3
import Derived.Shelf.Strings.OnBuilder
import Derived.Shelf.Strings.Prefix
import Derived.Shelf.Vars
import Derived.StillTailTactics
import Derived.Stop.Asserts
import Derived.Stop.Joined
import Derived.TacticsIn
import Derived.TacticsInMore
import Derived.WalkKit
import Derived.WalkLawsBesides
import Derived.WalkSpells
import Derived.WideKeyArgs
set_option linter.unusedVariables false
namespace Go.Proofs.YtikepaanbnfpcaaGreatDoor
open Go.RowKit
theorem Zh{p:Prop}(h:p):Hid p:=Lib.hid h
theorem Zq{w:World}{b o:Nat}{v:Value}(h:w.cell? ⟨b,o,none⟩=some v):b<w.heap.size:=World.block_lt_of_cell? _ _ h
theorem Zr{n:Nat}{w:World}:Below n w w:=Below.refl _ _
theorem Zg{α:Type}{l:List α}{i:Nat}(h:i<l.length):l[i]?=some l[i]:=List.getElem?_eq_getElem h
theorem Zd{α:Type}{l:List α}{i:Nat}{a:α}:l.getD i a=l[i]?.getD a:=List.getD_eq_getElem?_getD
theorem Zs:(∀{α β:Type}{a:α}{l:List α}{f:β→α→β}{b:β},(a::l).foldl f b=l.foldl f (f b a))∧(∀{α β:Type}{f:β→α→β}{b:β},([]:List α).foldl f b=b)∧(∀{α:Type}{l:List α}{i:Nat}{a:α},l.toArray.setIfInBounds i a=(l.set i a).toArray)∧(∀{α:Type}{a b:α}{l:List α},(a::l).set 0 b=b::l)∧(∀{α:Type}{a b:α}{l:List α}{n:Nat},(a::l).set (n+1) b=a::l.set n b):=⟨by intros;rfl,by intros;rfl,by intros;simp,by intros;rfl,by intros;rfl⟩
theorem Zk{W w':World}{b o:Nat}{x:Option Value}{v:Value}(hb:Below W.heap.size W w')(h:W.cell? ⟨b,o,none⟩=x)(e:x=some v):w'.cell? ⟨b,o,none⟩=some v∧b<w'.heap.size:=have hk:=(hb.cell (World.block_lt_of_cell? W ⟨b,o,none⟩ (h.trans e))).trans (h.trans e);⟨hk,World.block_lt_of_cell? _ _ hk⟩
theorem Zi0{x0:Value}{l:List Value}:(x0::l).toArray[0]?=some x0:=rfl
theorem Zi1{x0 x1:Value}{l:List Value}:(x0::x1::l).toArray[1]?=some x1:=rfl
theorem Zi2{x0 x1 x2:Value}{l:List Value}:(x0::x1::x2::l).toArray[2]?=some x2:=rfl
theorem Zi3{x0 x1 x2 x3:Value}{l:List Value}:(x0::x1::x2::x3::l).toArray[3]?=some x3:=rfl
theorem Zi4{x0 x1 x2 x3 x4:Value}{l:List Value}:(x0::x1::x2::x3::x4::l).toArray[4]?=some x4:=rfl
theorem Zi5{x0 x1 x2 x3 x4 x5:Value}{l:List Value}:(x0::x1::x2::x3::x4::x5::l).toArray[5]?=some x5:=rfl
theorem Zi6{x0 x1 x2 x3 x4 x5 x6:Value}{l:List Value}:(x0::x1::x2::x3::x4::x5::x6::l).toArray[6]?=some x6:=rfl
theorem Zi7{x0 x1 x2 x3 x4 x5 x6 x7:Value}{l:List Value}:(x0::x1::x2::x3::x4::x5::x6::x7::l).toArray[7]?=some x7:=rfl
theorem Zi8{x0 x1 x2 x3 x4 x5 x6 x7 x8:Value}{l:List Value}:(x0::x1::x2::x3::x4::x5::x6::x7::x8::l).toArray[8]?=some x8:=rfl
theorem Zi9{x0 x1 x2 x3 x4 x5 x6 x7 x8 x9:Value}{l:List Value}:(x0::x1::x2::x3::x4::x5::x6::x7::x8::x9::l).toArray[9]?=some x9:=rfl
theorem Zi10{x0 x1 x2 x3 x4 x5 x6 x7 x8 x9 x10:Value}{l:List Value}:(x0::x1::x2::x3::x4::x5::x6::x7::x8::x9::x10::l).toArray[10]?=some x10:=rfl
theorem Zi11{x0 x1 x2 x3 x4 x5 x6 x7 x8 x9 x10 x11:Value}{l:List Value}:(x0::x1::x2::x3::x4::x5::x6::x7::x8::x9::x10::x11::l).toArray[11]?=some x11:=rfl
theorem Zi12{x0 x1 x2 x3 x4 x5 x6 x7 x8 x9 x10 x11 x12:Value}{l:List Value}:(x0::x1::x2::x3::x4::x5::x6::x7::x8::x9::x10::x11::x12::l).toArray[12]?=some x12:=rfl
theorem Zi13{x0 x1 x2 x3 x4 x5 x6 x7 x8 x9 x10 x11 x12 x13:Value}{l:List Value}:(x0::x1::x2::x3::x4::x5::x6::x7::x8::x9::x10::x11::x12::x13::l).toArray[13]?=some x13:=rfl
theorem Zi14{x0 x1 x2 x3 x4 x5 x6 x7 x8 x9 x10 x11 x12 x13 x14:Value}{l:List Value}:(x0::x1::x2::x3::x4::x5::x6::x7::x8::x9::x10::x11::x12::x13::x14::l).toArray[14]?=some x14:=rfl
theorem Zi15{x0 x1 x2 x3 x4 x5 x6 x7 x8 x9 x10 x11 x12 x13 x14 x15:Value}{l:List Value}:(x0::x1::x2::x3::x4::x5::x6::x7::x8::x9::x10::x11::x12::x13::x14::x15::l).toArray[15]?=some x15:=rfl
theorem Zm{i n:Nat}(h:i<n):i∈List.range n:=List.mem_range.2 h
theorem Za{P:Prop}(h:P:=by refine GJ.op hj hdo hr rfl _ hdi (fun K hK=>?_);clear hj hf hdo hdi;rw[e1]at hK⊢;clear e1;go_simp;exact hK _ _ (fun k v _ _ h=>h) (fun t ht=>rfl) (hcm.trans (Zr.mono hcm.size))):P:=h
theorem Zb{P:Prop}(h:P:=by clear hj hf hdo hdi;rw[e1]at hK⊢;clear e1;go_simp;exact hK _ _ (fun k v _ _ h=>h) (fun t ht=>rfl) hcm):P:=h
theorem Zc{P:Prop}(h:P:=by 
 go_wp2_with(at_mapUpdate;refine wpList_mapUpdate_own _ rfl _ _ _ 203 rfl 63 4 mapLawU Tryz.underlying203 _ (bc+1+1) j _ rfl HMU6.out ZfN _ _ _ rfl rfl (key_u hd256) _ [] (plainElem_bool Tryz.underlying4 true) ?_);intro w10 hown hgrow;rw[seenU_put]at hown;have hf10:=Fx.grown hgrow;have HMU10:=Zh hown;have hne9:b9≠bc+1+1:=by omega
 have HFB6:Hid (Fx (fun b=>bc+1≤b) W2 W6):=HFB.out.trans (Fx.of_below HB6.out);have HBX10:=Zh (BX6.out.fx hf10 (fun e=>hne9 (by injection e)));have HSV10:=Zh ((HSV.out.after HB6.out).fx hf10 (fun b e=>by injection e with e;omega));have HBA10:Hid (Below w.heap.size w w10):=(HBW.out.trans (HB6.out.mono HBW.out.size)).trans (hf10.toBelow (Nat.le_trans HBW.out.size HB6.out.size) (fun b e=>by rw[HSZ.out];injection e with e;omega));have HBXc:=Zh ((HBXr.out.after HB6.out).fx hf10 (fun e=>by injection e with e;omega));have hmfx:=hf10;have hsz10:bc+1+1+1≤w10.heap.size:=by have h1:=HFB6.out.size;have h2:=hf10.size;omega
 have HF10:Hid (Fx (fun b=>b=bc+1+1) W6 w10):=hf10.mono (fun b e=>by injection e);clear hown hgrow hf10 hmfx z0 z1 z2 z3 z4 z5 z6 z7 zl hrun;obtain⟨z0,z1,z2,z3,z4,z5,z6,z7⟩:=HBX10.out.cells8;have zl:=HBX10.out.lt;have HKX10:=Zh (HK0.out.after HBA10.out);go_wp2_with fail;refine(kitem_c (fun b=>b<bc) w10 (bc+1+1+1) p (bc+1) _ _ _ _ _ _ _ vns _ _ _ _ _ _ (x.svcs.length:Int) x.names s va vn d pn2 qi2 kn2 ci2 HKX10.out.box ⟨by omega,by omega⟩ (fun b hb=>⟨by omega,by omega⟩) (HKX10.out.names.slN.mono (fun b hb _=>HLOW.out b (.inl hb.2))) HSV10.out HGD.out hnm hsz10 ?_ hk21 hk22 HFD.out).mono ?_;·exact((HN2.out.fx (S:=fun _=>False) (Fx.of_below HB6.out) (fun _ _ _ e=>e)).fx HF10.out (fun b hd _ e=>by have:=hD b hd;omega)).mono (fun b hb _=>by have:=hD b hb;omega)
 rintro e w11⟨hfb11,he⟩;have HFB11:Hid (Fx (fun b=>bc+1≤b) W2 w11):=(HFB6.out.trans (HF10.out.mono (fun b e=>by omega))).trans (hfb11.mono (fun b e=>by rcases e with e|e<;>omega));have HBW11:Hid (Fx (OwnX p vns (.slice pS x.svcs.length cS) vw vas vc) w w11):=Fx.of_below (HBA.out.trans (HFB11.out.toBelow HBA.out.size (fun b e=>by rw[HSZ.out];omega)));have HMU11:=Zh (MapU.fx HMU10.out hfb11 (by omega));obtain⟨Y,hY⟩:∃Y,itemCk x.names (x.svcs.length:Int) s d=Y:=⟨_,rfl⟩;rw[hY]at he;have HY:=Zh hY;have hit9:=HIT2.out;rw[hY]at hit9;have HIT9:=Zh hit9;clear hY z0 z1 z2 z3 z4 z5 z6 z7 zl hfb11 hit9
 cases Y with
 |error er=>(have HRE:Hid (RS=.error er):=by show _=_;rw[←HRS.out];unfold serviceCk;rw[HX.out,←HIT9.out];rfl);have he:e=.returned (failV er):=he;subst he;simp only[failV];go_wp2_with fail;go_ret;rw[HRE.out];exact⟨HBW11.out,rfl⟩
 |ok s1=>have he:e=.returned .nilIface∧∃va vn,SV w11 (bc+1+1+1) (bc+1) s1 va vn:=he;obtain⟨rfl,va1,vn1,hs1⟩:=he;have HSV11:=Zh hs1;have HGD11:=Zh (item_good HFD.out HGD.out HY.out);clear hs1;go_wp2_with fail;go_roundg(c.items.length-(j+1));(case measure=>omega);case rel=>refine⟨j+1,s1,va1,vn1,d.kind::seen,lm++[d.kind],by omega,rfl,by go_num,HIT9.out,fun k=>?_,fun k=>?_,HGD11.out,HSV11.out,HMU11.out,HFB11.out⟩;(·rw[snoc_contains,List.contains_cons,HSN.out k]);·rw[snoc_contains,HTK.out,any_snoc,HST.out k]):P:=h
theorem Ze{P:Prop}(h:P:=by refine GJ.op hj hdo hr rfl _ hdi (fun K hK=>?_);clear hj hf hdo hdi;go_simp;exact hK _ _ (fun k v _ _ h=>h) (fun t ht=>rfl) (hcm.trans (Zr.mono hcm.size))):P:=h
theorem Zf{P:Prop}(h:P:=by have gg:f 20=_:=atg hf hr 17;refine GJ.no hj hdo hr rfl _ hdi rfl (j:=17) rfl rfl (c:=true) gg rfl (fun k v _ _ h=>h) (fun t ht=>rfl) ?_;exact hcm):P:=h
theorem Zj{P:Prop}(h:P:=by 
 go_wp2_with fail;clear u0 u1 u2 u3 u4 u5 ul;go_loopg[5,103]x.caps.length(fun gn tv tj wy=>∃(j:Nat)(v6:Value)(nl6:List Cl),j≤x.caps.length∧gn=x.caps.length-j∧tv=v6∧tj=.int .i64 (j:Int)∧base≤wy.heap.size∧nl6.length≤60001+j∧Hid (nl6=nlC++(x.caps.take j).map capCl)∧Hid (OwnCl (DR (b1+1) v6) wy base v6 nl6)∧Hid (Fx (fun b=>base≤b) W1 wy));case atStart=>exact⟨0,_,_,Nat.zero_le _,rfl,rfl,rfl,hbr6,hmnlC,by show _=_;simp,HO6.out,HF6.out⟩
 case round=>
  obtain⟨j,v6,nl6,hj,rfl,rfl,rfl,hbr6,hm6,HL6,HO6,HF6⟩:=hrel;have HL6:=Zh HL6.out;have HO6:=Zh HO6.out;have HF6:=Zh HF6.out;obtain⟨q6,c6,rfl,_,_,_⟩:=HO6.out.shape;by_cases hlt:j<x.caps.length;·obtain⟨bq,oq,cq,eq,_,_,_,lq,hcq⟩:=SlR.at_ (f:=fun p:Int×Int=>[Value.int .i64 p.1,.int .i64 p.2]) (l:=x.caps) (0,0) (HI1.out.caps.fx HF6.out (fun b h _ e=>by omega)) (by omega);injection eq with eq _ ec;subst eq ec;have hmem:x.caps.getD j (0,0)∈x.caps:=ZaB;have hnum:=HNX.out.caps _ hmem;obtain⟨p,hp⟩:∃p,x.caps.getD j (0,0)=p:=⟨_,rfl⟩;rw[hp]at hnum;obtain⟨e0,e1⟩:=p;simp only at hnum;have x0:wr.cell? ⟨bq,oq+j*2,none⟩=some (.int .i64 e0):=Zcs;have x1:wr.cell? ⟨bq,oq+j*2+1,none⟩=some (.int .i64 e1):=Zct;have HP:=Zh hp;clear hmem hp hcq;(have jl:(j:Int)<(x.caps.length:Int):=by omega);(have j0:(0:Int)≤(j:Int):=by omega);obtain⟨Wo,hWo⟩:∃X,X=wr.alloc (.cells #[.int .i64 e0,.int .i64 e1] 39):=⟨_,rfl⟩;have hso:Wo.heap.size=wr.heap.size+1:=Zga;have hbo:Below wr.heap.size wr Wo:=hWo▸held_alloc (Below.refl _ wr);have HFq:=Zh (HF6.out.below hbo);have hbrq:base≤Wo.heap.size:=Nat.le_trans hbr6 hbo.size;have HOq:=Zh (HO6.out.fx (S:=fun _=>False) (Fx.of_below hbo) (fun _ e=>e.elim) (fun _ _ _ e=>e));have HCq:Hid (HasC (DR (b1+1) (.slice q6 nl6.length c6)) Wo (.slice none 0 0) (.slice none 0 0) (capCl (e0,e1))):=hasC_iff.2 ⟨⟨show 5<256 by decide,show 0<256 by decide,hnum.1,hnum.2,In64.zero,In64.zero⟩,SlN.nil _ _,SlC.nil _ _⟩;clear hbo hnum;obtain⟨Wp,hWp⟩:∃X,X=Wo.alloc (.cells #[.int .u8 5,.slice none 0 0,.int .u8 0,.int .i64 e0,.int .i64 e1,.int .i64 0,.slice none 0 0,.int .i64 0] 66):=⟨_,rfl⟩;have hbp:Below Wo.heap.size Wo Wp:=hWp▸held_alloc (Below.refl _ Wo);have hxp:Box Wp (wr.heap.size+1) #[.int .u8 5,.slice none 0 0,.int .u8 0,.int .i64 e0,.int .i64 e1,.int .i64 0,.slice none 0 0,.int .i64 0] 66:=Zeb;have hsp:Wp.heap.size=wr.heap.size+1+1:=ZeH;have HXP:=Zh hxp;have HFp:=Zh (HFq.out.below hbp);have hbrp:base≤Wp.heap.size:=Nat.le_trans hbrq hbp.size;have HOp:=Zh (HOq.out.fx (S:=fun _=>False) (Fx.of_below hbp) (fun _ e=>e.elim) (fun _ _ _ e=>e));have HCp:=Zh (HasC.fx (S:=fun _=>False) (Fx.of_below hbp) (fun _ _ _ e=>e) _ HCq.out);have hlp:(nl6).length≤1000000:=ZdP;clear hbp hxp HFq HOq HCq;go_wp2_with(at_builtin;rw[←hWo,←hWp];obtain⟨us,hown,hL⟩:=HOp.out;refine wpList_appC rfl _ _ _ rfl base 66 8 96 _ Tryz.underlying42 infoC rfl (by decide) (by decide) _ (rowsOf us (nl6)) (clV (capCl (e0,e1)) (.slice none 0 0) (.slice none 0 0)) rfl hown rfl Zey ⟨wr.heap.size+1,0,none⟩ 1 rfl (show Box _ _ (clV (capCl (e0,e1)) (.slice none 0 0) (.slice none 0 0)).toArray 66 from HXP.out).news ZdH hbrp ?_);intro v9 W9 hown9 hf9 hor9;rw[←hWo,←hWp]at hf9;rw[←hsp]at hor9;have HO9:=Zh (OwnCl.app2 hL HCp.out hown9 hf9 hor9);have hrow:=HOp.out.lt;have HF9:=Zh (HFp.out.trans (hf9.mono (fun b e=>(hrow b e).1)));have hbr9:base≤W9.heap.size:=Nat.le_trans hbrp hf9.size;clear hown9 hf9 hor9 hrow hL hown HXP HFp HOp HCp hWp hlp;have hl9:nl6++[capCl (e0,e1)]=nlC++(x.caps.take (j+1)).map capCl:=ZaY;rw[hl9]at HO9;have hm9:(nlC++(x.caps.take (j+1)).map capCl).length≤60001+(j+1):=Zep;obtain⟨nl9,hn9⟩:∃l,nlC++(x.caps.take (j+1)).map capCl=l:=⟨_,rfl⟩;rw[hn9]at HO9 hm9;have HN9:=Zh hn9;clear hl9 hn9;obtain⟨q9,c9,rfl,_,_,_⟩:=HO9.out.shape;go_wp2_with fail;go_roundg(x.caps.length-(j+1));(case measure=>omega);case rel=>exact ZcP
  ·(obtain rfl:j=x.caps.length:=by omega);clear hlt;rw[List.take_length]at HL6;have hmD:nl6.length≤80001:=ZdP;obtain⟨u0,u1,u2,u3,u4,u5⟩:=(HB1.out.fx HF6.out (fun e=>by omega)).cells6;have ul:=(HB1.out.fx HF6.out (fun e=>by omega)).lt;have HAL:=HAL0;clear u0 u1 u2 u3 u4 u5 ul;rw[←HL6.out]at HAL;have HFM:=Zh (Formed_c N _ wr _ nl6 HO6.out.slC (by have:=HBW1.out.size;have:=HF6.out.size;omega) (HE1.out.fx HF6.out (fun b e=>by have:=HBW1.out.size;omega)));have HBW6:=Zh (HBW1.out.trans (HF6.out.toBelow HBW1.out.size (fun b e=>by have:=HBW1.out.size;omega)));go_wp2_with fail;refine HFM.out.mono ?_;rintro e W9⟨rfl,hb9⟩;clear HFM
   cases hfb:nl6.all formBT with
   |true=>(have HE:Hid (y=(nl6,0)):=by show _=_;rw[←HY.out,clausesF_all HNN.out (fun j hj=>HOK.out j hj),←HAL.out,if_pos hfb]);clear hfb;go_wp2_with fail;go_ret2;rw[HE.out];exact⟨HBW6.out.trans (hb9.mono HBW6.out.size),_,rfl,(HO6.out.slC.after hb9).mono (fun b h _=>by have:=HBW1.out.size;exact Zgf)⟩
   |false=>(have HE:Hid (y=([],1)):=by show _=_;rw[←HY.out,clausesF_all HNN.out (fun j hj=>HOK.out j hj),←HAL.out,if_neg (by rw[hfb];decide)]);clear hfb;go_wp2_with fail;go_ret2;rw[HE.out];exact⟨HBW6.out.trans (hb9.mono HBW6.out.size),_,rfl,SlC.nil _ _⟩):P:=h
theorem Zl{P:Prop}(h:P:=by rintro e w10⟨rfl,hb10⟩;exact hK _ _ (fun k v _ _ h=>KS.st _ _ _ _ (Fx.of_below hb10) h) (fun t ht=>rfl) (hcm.trans (hb10.mono hcm.size))):P:=h
theorem Zn{P:Prop}(h:P:=by have gg:f 34=_:=atg hf hr 31;refine GJ.no hj hdo hr rfl _ hdi rfl (j:=31) rfl rfl (c:=true) gg rfl (fun k v _ _ h=>h) (fun t ht=>rfl) ?_;exact hcm):P:=h
theorem Zo{P:Prop}(h:P:=by clear hj hf hdo hdi;go_simp;exact hK _ _ (fun k v _ _ h=>h) (fun t ht=>rfl) hcm):P:=h
theorem Zp{P:Prop}(h:P:=by refine GJ.op hj hdo hr rfl _ hdi (fun K hK=>?_);clear hj hf hdo hdi;rw[e1]at hK⊢;clear e1;go_simp;exact hK _ _ (fun k v _ _ h=>h) (fun t ht=>rfl) (hcm.keep (by decide) (by rfl))):P:=h
theorem Zt{P:Prop}(h:P:=by refine GJ.op hj hdo hr rfl _ hdi (fun K hK=>?_);clear hj hf hdo hdi;go_simp;exact hK _ _ (fun k v _ _ h=>h) (fun t ht=>rfl) (hcm.keep (by decide) (by rfl))):P:=h
theorem Zu{P:Prop}(h:P:=by clear hln;go_wp2_with fail;refine(has_c _ _ c.kind 1 PB _ hkp hpl.out).mono ?_;rw[hb1.out];rintro e v1⟨rfl,hb⟩;have hB1:Hid (Below w2.heap.size w2 v1):=hb;replace hpl:=Zh (SlP.after hpl.out hb);replace hk1:=keep_cell hb hk1;replace hkp:=keep_cell hb hkp;have hl1:=World.block_lt_of_cell? _ _ hk1;have hm1:=Zq hkp;clear hb;go_wp2_with fail;refine(has_c _ _ c.kind 2 PB _ hkp hpl.out).mono ?_;rw[hb2.out];rintro e v2⟨rfl,hb⟩;have hB2:Hid (Below w2.heap.size w2 v2):=hB1.out.trans (hb.mono hB1.out.size);replace hpl:=Zh (SlP.after hpl.out hb);replace hk1:=keep_cell hb hk1;replace hkp:=keep_cell hb hkp;have hl2:=World.block_lt_of_cell? _ _ hk1;have hm2:=Zq hkp;clear hb;go_wp2_with fail;refine(has_c _ _ c.kind 1 PB _ hkp hpl.out).mono ?_;rw[hb1.out];rintro e v3⟨rfl,hb⟩;have hB3:Hid (Below w2.heap.size w2 v3):=hB2.out.trans (hb.mono hB2.out.size);replace hpl:=Zh (SlP.after hpl.out hb);replace hk1:=keep_cell hb hk1;replace hkp:=keep_cell hb hkp;have hl3:=World.block_lt_of_cell? _ _ hk1;have hm3:=Zq hkp;clear hb;go_wp2_with fail;refine(has_c _ _ c.kind 2 PB _ hkp hpl.out).mono ?_;rw[hb2.out];rintro e v4⟨rfl,hb⟩;have hB4:Hid (Below w2.heap.size w2 v4):=hB3.out.trans (hb.mono hB3.out.size);replace hpl:=Zh (SlP.after hpl.out hb);replace hk1:=keep_cell hb hk1;replace hkp:=keep_cell hb hkp;have hl4:=World.block_lt_of_cell? _ _ hk1;have hm4:=Zq hkp;clear hb;go_wp2_with fail;exact hQ.out _ _ _ _ _ _ _ _ _ _ _ _ _ _ _ _ _ _ _ _ _ _ _ _ _ _ _ _ _ _ _ _ _ _ _ hB4.out):P:=h
theorem Zv{P:Prop}(h:P:=by clear hj hf hdo hdi;rw[e1,e2]at hK⊢;clear e1 e2;go_simp;exact hK _ _ (fun k v _ _ h=>h) (fun t ht=>rfl) hcm):P:=h
theorem Zw{P:Prop}(h:P:=by kernel_rfl):P:=h
theorem Zx{P:Prop}(h:P:=by have gg:f 8=_:=atg hf hr 5;refine GJ.no hj hdo hr rfl _ hdi rfl (j:=5) rfl rfl (c:=true) gg rfl (fun k v _ _ h=>h) (fun t ht=>rfl) ?_;exact hcm):P:=h
theorem Zy{P:Prop}(h:P:=by have y1:wr.cell? ⟨bb,ob+i*2+1,none⟩=some (.int .i64 (b.getD i (0,0)).2):=hcb i hib 1 (by omega);clear hca hcb;(have il:(i:Int)<(a.length:Int):=by omega);(have il2:(i:Int)<(b.length:Int):=by omega);(have i0:(0:Int)≤(i:Int):=by omega);by_cases he:a.getD i (0,0)=b.getD i (0,0);(·obtain⟨s,hs⟩:∃s,a.getD i (0,0)=s:=⟨_,rfl⟩;rw[hs]at x0 x1 he;rw[←he]at y0 y1;exact Zar);·have HE:Hid (R=false):=Zds;obtain⟨s,hs⟩:∃s,a.getD i (0,0)=s:=⟨_,rfl⟩;obtain⟨s',hs'⟩:∃s,b.getD i (0,0)=s:=⟨_,rfl⟩;rw[hs]at x0 x1 he;rw[hs']at y0 y1 he;clear hs hs' heq;obtain⟨m0,m1⟩:=s;obtain⟨n0,n1⟩:=s';simp only at x0 x1 y0 y1;(have hdn:decide (m0=n0∧m1=n1)=false:=by rw[decide_eq_false_iff_not];rintro⟨r0,r1⟩;exact he (by simp only[r0,r1]));exact Zcg):P:=h
theorem Zz{P:Prop}(h:P:=by (have HIR:Hid (IR (bodyT 1 o) (.ok r0) (.mk 1 [nm] 0 0 0 0 acc o) (goS (wantP sClose) s)):=by(have hh:∀n,IR (serM o n []) (goS (wantP sOpen) (goS nameP (.ok r0))) (.mk 1 [n] 0 0 0 0 acc o) (goS (wantP sClose) s):=fun n=>by obtain⟨g1,g2⟩:=hinv.out n;obtain⟨k1,k2⟩:=ser_exit o n acc (s:=s) hex;rw[HS6.out];exact⟨by rw[g1];exact k1,fun c0 h=>k2 c0 (by rw[←g2];exact h)⟩);have:=ir_service o (s:=.ok r0) (L:=acc) hh;rw[hnm.out]at this;exact this);clear HOq hinv hex;go_wp2_with fail;refine(rtake_c _ p ts en _ sClose hts1 HPq.out).mono ?_;rintro e wz⟨rfl,hp,hfx⟩;have HPZ:=Zh hp;have BZ:=Zh (B3q.out.fx hfx (fun e=>by omega));have BR:=Zh (B2q.out.fx hfx (fun e=>by omega));have HFZ:=Zh (HFq.out.new hfx (fun b e=>.inl e));replace HNM:=Zh (HNM.out.fx (Fx.trans hfq.out (hfx.mono (fun b e=>.inl e))) (fun b hb hlt e=>by have:=hb.1;have:=hb.2;rcases e with e|e|e<;>omega));replace HIT:=Zh (HIT.out.fx hfx (fun b hb _ e=>ZbK));clear hp hfx HPq B3q B2q HFq;obtain⟨z0,z1,z2,z3,z4,z5,z6,z7⟩:=BZ.out.cells8;obtain⟨y0,y1,y2,y3,y4,y5,y6,y7⟩:=BR.out.cells8;obtain⟨f0,f1,f2,f3,f4,f5,f6,f7⟩:=BR.out.frozen8;have lb2:=BR.out.lt;have lb3:=BZ.out.lt;have HEN:=Zh (end8 BR.out (.int .u8 1) (.slice (some ⟨w5.heap.size,0,none⟩) 1 1) (.int .u8 0) (.int .i64 0) (.int .i64 0) (.int .i64 0) (.slice q0 acc.length cap0) (.int .i64 o));go_wp2_with fail;obtain⟨e0,e1,e2,e3,e4,e5,e6,e7⟩:=HEN.out.cells8;refine bodyPost_ret (v:=.agg (clV (.mk 1 [nm] 0 0 0 0 acc o) (.slice (some ⟨w5.heap.size,0,none⟩) 1 1) (.slice q0 acc.length cap0)).toArray) (by simp[results,Tryz.results128,go_sem,clV,Cl.kind,Cl.dom,Cl.idx,Cl.a,Cl.b,Cl.off,e0,e1,e2,e3,e4,e5,e6,e7]) rfl ?_;have hf9:=fx_set8 wz (w.heap.size+1) 0 (.int .u8 1) (.slice (some ⟨w5.heap.size,0,none⟩) 1 1) (.int .u8 0) (.int .i64 0) (.int .i64 0) (.int .i64 0) (.slice q0 acc.length cap0) (.int .i64 o);refine⟨_,.mk 1 [nm] 0 0 0 0 acc o,_,rfl,⟨.slice (some ⟨w5.heap.size,0,none⟩) 1 1,.slice q0 acc.length cap0,rfl,hasC_iff.2 ⟨nums_mk (by decide) (by decide) in0 in0 in0 ho,SlN.mono (HNM.out.fx hf9 (fun b hb _ e=>Zcx)) (fun b hb _=>hb.1),SlC.mono (HIT.out.fx hf9 (fun b hb _ e=>Zcx)) (fun b hb _=>hb.1)⟩⟩,HIR.out,RP.fx HPZ.out hf9 (fun b e=>by omega),HFZ.out.new hf9 (fun b e=>.inr (by omega))⟩):P:=h
theorem ZA{P:Prop}(h:P:=by refine GJ.op hj hdo hr rfl _ hdi (fun K hK=>?_);clear hj hf hdo hdi;rw[e1,e2]at hK⊢;clear e1 e2;go_simp;exact hK _ _ (fun k v _ _ h=>h) (fun t ht=>rfl) (hcm.trans (Zr.mono hcm.size))):P:=h
theorem ZB{P:Prop}(h:P:=by 
 obtain⟨b,hb⟩:∃b,P x=b:=⟨_,rfl⟩;rw[hb];have HBB:=Zh hb;clear hb
 cases b with
 |false=>go_wp2_with fail;go_roundg(l.length-(i+1));(case measure=>omega);case rel=>refine⟨i+1,by omega,rfl,by go_num,fun j hj=>?_,HB1.out⟩;rcases Nat.lt_or_ge j i with h|h;(·exact heq.out j h);·(obtain rfl:j=i:=by omega);rw[HX.out];exact HBB.out
 |true=>(have HE:Hid (B=true):=by show _=_;rw[←HB.out];exact any_of hlt (by rw[HX.out];exact HBB.out));clear heq;go_wp2_with fail;go_ret;exact⟨_,rfl,by rw[HE.out];exact decide_eq_true (by omega),HB1.out⟩):P:=h
theorem ZC{P:Prop}(h:P:=by refine GJ.op hj hdo hr rfl _ hdi (fun K hK=>?_);clear hj hf hdo hdi;rw[e1]at hK⊢;clear e1;go_simp;exact hK _ _ (fun k v _ _ h=>h) (fun t ht=>rfl) (hcm.keep (by decide) (by decide) (by decide) (by decide) rfl rfl Zr)):P:=h
theorem ZD{P:Prop}(h:P:=by go_enter Tryz.func166,Tryz.ntmps166;go_wp2_with fail;go_ret;exact⟨by rfl,Below.refl _ _⟩):P:=h
theorem ZE{P:Prop}(h:P:=by clear gg;clear hj hf hdo hdi;rw[e1]at hK⊢;clear e1;go_simp;exact hK _ _ (fun k v _ _ h=>h) (fun t ht=>rfl) (hcm.trans (Zr.mono hcm.size))):P:=h
theorem ZG{P:Prop}(h:P:=by go_simp;exact hK _ _ (fun k v _ _ h=>KS.st _ _ _ _ (Fx.of_below (held_alloc Zr)) h) (fun t ht=>⟨w9.heap.size,hcm.size,rfl,Box.new _ _ _⟩) (hcm.trans ((held_alloc Zr).mono hcm.size))):P:=h
theorem ZH{P:Prop}(h:P:=by have gg:f 42=_:=atg hf hr 14;refine GJ.no hj hdo hr rfl _ hdi rfl (j:=14) rfl rfl (c:=true) gg rfl (fun k v _ _ h=>h) (fun t ht=>rfl) ?_;exact hcm):P:=h
theorem ZI{P:Prop}(h:P:=by go_simp;exact hK _ _ (fun k v _ _ h=>h) (fun t ht=>rfl) ⟨hcm.1.below Zr,fun u=>RP.after (hcm.2.1 (fun u'=>u (up_keep u'))) Zr,fun u=>RP.after (hcm.2.2 (up_set u (by decide))) Zr⟩):P:=h
theorem ZJ{P:Prop}(h:P:=by (obtain rfl:i=a.length:=by omega);(have HE:Hid (R=true):=by show _=_;rw[←HR.out];rcases HDF.out with e|⟨j,hj,hn⟩;(·exact decide_eq_true e);·exact absurd (heq.out j hj) hn);have HBW:=Zh hbl.out;clear hlt heq hbl;go_wp2_with fail;go_ret;rw[HE.out];exact⟨rfl,HBW.out⟩):P:=h
theorem ZK{P:Prop}(h:P:=by have gg:f 58=_:=atg hf hr 7;refine GJ.no hj hdo hr rfl _ hdi rfl (j:=7) rfl rfl (c:=true) gg rfl (fun k v _ _ h=>h) (fun t ht=>rfl) ?_;exact hcm):P:=h
theorem ZL{P:Prop}(h:P:=by have hbw:Below wr.heap.size wr w9:=hcm.below nS;refine GJ.op hj hdo hr rfl _ hdi (fun K hK=>?_);clear hj hf hdo hdi;rw[e1]at hK⊢;clear e1;go_simp;exact hK _ _ (fun k v _ _ h=>KS.st _ _ _ _ (Fx.of_below (held_alloc Zr)) h) (fun t ht=>⟨w9.heap.size,hbw.size,rfl,Box.new _ _ _⟩) (hcm.mem nS (by decide) (held_alloc Zr))):P:=h
theorem ZM{P:Prop}(h:P:=by go_enter Tryz.func109,Tryz.ntmps109;(go_wp2_with first|(go_at_call 152;refine(letter_c c _).mono ?_;rintro e w'⟨rfl,rfl⟩;rw[h1])|(go_at_call 155;refine(digit_c c _).mono ?_;rintro e w'⟨rfl,rfl⟩;rw[h2]));refine(run_c (c::m) _ _ class_digit _ hl).mono ?_;rintro e w'⟨rfl,rfl⟩;rw[HX.out];go_wp2_with fail;refine(atoi_c (bs x) (N:Int) h18 hat.out _).mono ?_;rintro e w1⟨rfl,hb1⟩;go_wp2_with fail;refine(clone_c (bs x) _ (by rw[hsx];omega)).mono ?_;rintro e w2⟨rfl,hb2⟩;have hb:=hb1.trans (hb2.mono hb1.size);have bx:=(Box.new w #[.int .u8 0,.string ⟨#[]⟩,.int .i64 0,.int .i64 0] 164).after hb;obtain⟨r0,r1,r2,r3⟩:=bx.cells4;have f0:=bx.frozen 0;have f1:=bx.frozen 1;have f2:=bx.frozen 2;have f3:=bx.frozen 3;have HE:=Zh (end_tok bx (.int .u8 2) (.string (bs x)) (.int .i64 (N:Int)) (.int .i64 0));have HB:=Zh (below_tok ((held_alloc (Below.refl _ w)).trans (hb.mono (by simp))) (Nat.le_refl _) (.int .u8 2) (.string (bs x)) (.int .i64 (N:Int)) (.int .i64 0));clear hb hb1 hb2 bx;go_wp2_with fail;obtain⟨e0,e1,e2,e3⟩:=HE.out.cells4;exact bodyPost_ret (v:=.tuple #[aggT ⟨2,x,(N:Int),0⟩,.int .i64 0]) ZdU rfl ⟨rfl,HB.out⟩):P:=h
theorem ZN{P:Prop}(h:P:=by clear hln;go_wp2_with fail;refine(has_c _ _ c.kind 1 PB _ hkp hpl.out).mono ?_;rw[hb1.out];rintro e v1⟨rfl,hb⟩;have hB1:Hid (Below w2.heap.size w2 v1):=hb;replace hpl:=Zh (SlP.after hpl.out hb);replace hk1:=keep_cell hb hk1;replace hkp:=keep_cell hb hkp;have hl1:=World.block_lt_of_cell? _ _ hk1;have hm1:=Zq hkp;clear hb;go_wp2_with fail;refine(has_c _ _ c.kind 2 PB _ hkp hpl.out).mono ?_;rw[hb2.out];rintro e v2⟨rfl,hb⟩;have hB2:Hid (Below w2.heap.size w2 v2):=hB1.out.trans (hb.mono hB1.out.size);replace hpl:=Zh (SlP.after hpl.out hb);replace hk1:=keep_cell hb hk1;replace hkp:=keep_cell hb hkp;have hl2:=World.block_lt_of_cell? _ _ hk1;have hm2:=Zq hkp;clear hb;go_wp2_with fail;refine(has_c _ _ c.kind 1 PB _ hkp hpl.out).mono ?_;rw[hb1.out];rintro e v3⟨rfl,hb⟩;have hB3:Hid (Below w2.heap.size w2 v3):=hB2.out.trans (hb.mono hB2.out.size);replace hpl:=Zh (SlP.after hpl.out hb);replace hk1:=keep_cell hb hk1;replace hkp:=keep_cell hb hkp;have hl3:=World.block_lt_of_cell? _ _ hk1;have hm3:=Zq hkp;clear hb;go_wp2_with fail;exact hQ.out _ _ _ _ _ _ _ _ _ _ _ _ _ _ _ _ _ _ _ _ _ _ _ _ _ _ _ _ _ _ _ _ _ _ _ hB3.out):P:=h
theorem ZO{P:Prop}(h:P:=by exact⟨0,Nat.zero_le _,rfl,rfl,fun j hj=>absurd hj (by omega),Below.refl _ _⟩):P:=h
theorem ZP{P:Prop}(h:P:=by refine GJ.op hj hdo hr rfl _ hdi (fun K hK=>?_);clear hj hf hdo hdi;rw[e1]at hK⊢;clear e1;go_simp;exact hK _ _ (fun k v _ _ h=>h) (fun t ht=>rfl) (hcm.keep (by decide) (by decide) rfl Zr)):P:=h
theorem ZQ{P:Prop}(h:P:=by refine GJ.op hj hdo hr rfl _ hdi (fun K hK=>?_);exact Zb):P:=h
theorem ZR{P:Prop}(h:P:=by refine GJ.yes hj hdo hr rfl _ hdi rfl (j:=5) rfl rfl (c:=false) gg rfl (fun K hK=>?_);clear gg;exact Zb):P:=h
theorem ZS{P:Prop}(h:P:=by refine GJ.yes hj hdo hr rfl _ hdi rfl (j:=17) rfl rfl (c:=false) gg rfl (fun K hK=>?_);clear gg;exact Zb):P:=h
theorem ZT{P:Prop}(h:P:=by intro listed a w10 hr hj;have hu:∀k,k<45→up listed k:=fun k hk=>all_up Zw hj.lsize hr k hk;obtain⟨f,hae,hcm,hf⟩:=hj.opened [3,4,5,6,7,8,9,10,11,12,13,14,15,16,17,18,19,20,21,22,23,24,25,26,27,28,29,30,31,32,33,34,35,36,37,38,39,40,41,42,43,44,45,46,47] Zw;simp only[Zs]at hae;subst hae;replace hcm:Below w.heap.size w w10:=hcm;have E44:f 47=.bool true:=hf 44 _ _ rfl rfl (hu 44 (by omega));have HCM:=Zh hcm;clear hcm hf hj hr hu;rw[E44];clear E44;exact hQ.out _ (f 3) (f 4) (f 5) (f 6) (f 7) (f 8) (f 9) (f 10) (f 11) (f 12) (f 13) (f 14) (f 15) (f 16) (f 17) (f 18) (f 19) (f 20) (f 21) (f 22) (f 23) (f 24) (f 25) (f 26) (f 27) (f 28) (f 29) (f 30) (f 31) (f 32) (f 33) (f 34) (f 35) (f 36) (f 37) (f 38) (f 39) (f 40) (f 41) (f 42) (f 43) (f 44) (f 45) (f 46) HCM.out):P:=h
theorem ZU{P:Prop}(h:P:=by refine GJ.op hj hdo hr rfl _ hdi (fun K hK=>?_);exact Zo):P:=h
theorem ZV{P:Prop}(h:P:=by go_wp2_with fail;refine(rfail_c _ p ts en _ (H.out.after hbW)).mono ?_;rintro e w2⟨rfl,hp2,hf2⟩;have HP2:=Zh hp2;have HF2:=Zh ((Fx.of_below (S:=fun b=>b=p) hbW).trans hf2);clear hp2 hf2;go_wp2_with fail;go_ret;exact⟨rfl,HP2.out,HF2.out⟩):P:=h
theorem ZW{P:Prop}(h:P:=by go_wp2_with fail;refine(rfail_c _ p ts en _ HP4.out).mono ?_;rintro e w5⟨rfl,hp,hfx⟩;have HP5:=Zh hp;have B25:=Zh (B24.out.fx hfx (fun e=>by omega));have B35:=Zh (B34.out.fx hfx (fun e=>by omega));have HF5:=Zh (HF4.out.new hfx (fun b e=>.inl e));clear hp hfx;obtain⟨z0,z1,z2,z3,z4,z5,z6,z7⟩:=B35.out.cells8;obtain⟨y0,y1,y2,y3,y4,y5,y6,y7⟩:=B25.out.cells8;obtain⟨f0,f1,f2,f3,f4,f5,f6,f7⟩:=B25.out.frozen8;have lb2:=B25.out.lt;have lb3:=B35.out.lt;have HEN:=Zh (end8 B25.out (.int .u8 0) (.slice none 0 0) (.int .u8 0) (.int .i64 0) (.int .i64 0) (.int .i64 0) (.slice none 0 0) (.int .i64 o));go_wp2_with fail;obtain⟨e0,e1,e2,e3,e4,e5,e6,e7⟩:=HEN.out.cells8;refine bodyPost_ret (v:=.agg (clV (.mk 0 [] 0 0 0 0 [] o) (.slice none 0 0) (.slice none 0 0)).toArray) (by simp[results,Tryz.results176,go_sem,clV,Cl.kind,Cl.dom,Cl.idx,Cl.a,Cl.b,Cl.off,e0,e1,e2,e3,e4,e5,e6,e7]) rfl ?_;have hf9:=fx_set8 w5 w.heap.size 0 (.int .u8 0) (.slice none 0 0) (.int .u8 0) (.int .i64 0) (.int .i64 0) (.int .i64 0) (.slice none 0 0) (.int .i64 o);refine⟨_,.mk 0 [] 0 0 0 0 [] o,_,rfl,⟨.slice none 0 0,.slice none 0 0,rfl,hasC_iff.2 ⟨nums_mk (by decide) (by decide) in0 in0 in0 HOF.out,SlN.nil _ _,SlC.nil _ _⟩⟩,HIRF.out,RP.fx HP5.out hf9 (fun b e=>by omega),HF5.out.new hf9 (fun b e=>.inr (by omega))⟩):P:=h
theorem ZX{P:Prop}(h:P:=by have H5:=Zh h5;clear h3 h5;go_enter Tryz.func126,Tryz.ntmps126;(go_wp2_with first|(go_at_call 169;refine(rletter_c l[i] _).mono ?_;rintro e w'⟨rfl,rfl⟩;rw[h1])|(go_at_call 171;refine(rdigit_c l[i] _).mono ?_;rintro e w'⟨rfl,rfl⟩;rw[h2])|(go_at_call 172;refine(rnumberEnd_c l i (Nat.le_of_lt hi) _ hl).mono ?_;rintro e w'⟨rfl,rfl⟩;rw[HN.out]));all_goals first|(exfalso;have:=H5.out;omega)|((have q1:(0:Int)≤(i:Int)+(N:Int):=by omega);(have q2:(i:Int)+(N:Int)≤(l.length:Int):=by omega);(have q3:(i:Int)≤(i:Int)+(N:Int):=by omega);(have q4:((i:Int)+(N:Int)).toNat=i+N:=by omega);refine wp_region_still_tail 11 Zw Zw ?_;simp only[List.take_succ_cons,List.take_zero,List.drop_succ_cons,List.drop_zero];(repeat still_step);still_call((rValue_c x HD.out hxl _).mono (fun e w'' h=>⟨by rw[h.1,HV.out],h.2.symm⟩));(repeat still_step);refine wpStill_nil ?_;change wpList _ _ _ _ _ (World.drew _);go_wp2_with fail;exact bodyPost_ret (v:=.tuple #[.agg #[.int .u8 2,.string (bs x),.int .i64 (V:Int),.int .i64 (i:Int)],.int .i64 0]) (by simp[results,Tryz.results126,go_sem];try rfl) rfl ⟨rfl,below_dr (Zr.alloc (Nat.le_refl _) _)⟩)):P:=h
theorem ZY{P:Prop}(h:P:=by have gg:f 8=_:=atg hf hr 5;refine GJ.yes hj hdo hr rfl _ hdi rfl (j:=5) rfl rfl (c:=false) gg rfl (fun K hK=>?_);clear gg;exact Zo):P:=h
theorem ZZ{P:Prop}(h:P:=by intro listed a w10 hr hj;have hu:∀k,k<30→up listed k:=fun k hk=>all_up Zw hj.lsize hr k hk;obtain⟨f,hae,hcm,hf⟩:=hj.opened [28,29,30,31,32,33,34,35,36,37,38,39,40,41,42,43,44,45,46,47,48,49,50,51,52,53,54,55,56,4] Zw;simp only[Zs]at hae;subst hae;replace hcm:Below wr.heap.size wr w10:=hcm;have E29:f 4=erV R:=hf 29 _ _ rfl rfl (hu 29 (by omega));have HF:=Zh (show Below wr.heap.size wr w10 from hcm);clear hcm hf hj hu hr;rw[E29];clear E29;generalize f 28=g28;generalize f 29=g29;generalize f 30=g30;generalize f 31=g31;generalize f 32=g32;generalize f 33=g33;generalize f 34=g34;generalize f 35=g35;generalize f 36=g36;generalize f 37=g37;generalize f 38=g38;generalize f 39=g39;generalize f 40=g40;generalize f 41=g41;generalize f 42=g42;generalize f 43=g43;generalize f 44=g44;generalize f 45=g45;generalize f 46=g46;generalize f 47=g47;generalize f 48=g48;generalize f 49=g49;generalize f 50=g50;generalize f 51=g51;generalize f 52=g52;generalize f 53=g53;generalize f 54=g54;generalize f 55=g55;generalize f 56=g56;clear f;exact hQ.out _ _ _ _ _ _ _ _ _ _ _ _ _ _ _ _ _ _ _ _ _ _ _ _ _ _ _ _ _ _ HF.out):P:=h
theorem Zaa{P:Prop}(h:P:=by have e1:f 51=_:=atg hf hr 0;have kc:=keep_cell hcm hkp;have klt:=Zq kc;refine GJ.op hj hdo hr rfl _ hdi (fun K hK=>?_);clear hj hf hdo hdi;rw[e1]at hK⊢;clear e1;go_simp;refine(has_c _ w9 c.kind 6 PB _ (keep_cell hcm hkp) (SlP.after hpl hcm)).mono ?_;rw[hb6.out];exact Zl):P:=h
theorem Zab{P:Prop}(h:P:=by intro listed a w10 hr hj;have hu:∀k,k<18→up listed k:=fun k hk=>all_up Zw hj.lsize hr k hk;obtain⟨f,hae,hcm,hf⟩:=hj.opened [51,52,53,54,55,56,57,58,59,60,61,62,63,64,65,66,67,50] Zw;simp only[Zs]at hae;subst hae;replace hcm:Below w2.heap.size w2 w10:=hcm;have E:f 50=.bool true:=hf 17 _ _ rfl rfl (hu 17 (by omega));have HCM:=Zh hcm;clear hcm hf hj hr hu;rw[E];clear E;exact hQ.out _ (f 51) (f 52) (f 53) (f 54) (f 55) (f 56) (f 57) (f 58) (f 59) (f 60) (f 61) (f 62) (f 63) (f 64) (f 65) (f 66) (f 67) HCM.out):P:=h
theorem Zac{P:Prop}(h:P:=by have gg:f 8=_:=atg hf hr 5;have e1:f 12=_:=atg hf hr 9;have e2:f 17=_:=atg hf hr 14;have q1:=Q1.out;have q2:=Q2.out;have q3:=Q3.out;have q7:=Q7.out;have q8:=Q8.out;refine GJ.yes hj hdo hr rfl _ hdi rfl (j:=5) rfl rfl (c:=false) gg rfl (fun K hK=>?_);clear gg;exact Zv):P:=h
theorem Zad{P:Prop}(h:P:=by have HO2:=Zh (HOW.out.snoc hlen hown2);have hS:∀b,some b=v0.ownBlock→base≤b:=fun b e=>(HOL.out b e).1;have HP2:=Zh (RP.fx HP.out hf2 (fun b e=>Zdh));have HB2:=Zh (HB.out.fx hf2 (fun e=>by have:=hS _ e;omega));have HF2:Hid (Fx (fun b=>b=p∨b=c∨base≤b) wr w2):=(HF.out.mono (fun b e=>.inl e)).trans (hf2.mono (fun b e=>.inr (.inr (hS b e))));obtain⟨q,cap,rfl,_,_,_⟩:=HO2.out.shape;(have hll:(nl++[n]).length=nl.length+1:=by simp);rw[hll]at HO2⊢;clear hll hown2 hf2 hor HOW HB HP HF hbg;simp only[Act.put,List.setIfInBounds_toArray,List.set_cons_zero,List.set_cons_succ];have k1:=HB2.out.cell 1;have kf:=HB2.out.frozen 1;have kl:=HB2.out.lt;obtain⟨q0,cap0,hv0,_,_,_⟩:=ho.shape;go_wp2_with fail;have hfs:=Fx.set w2 c 1 (.slice q (nl.length+1) cap);refine hQ.out _ _ _ _ _ _ _ _ _ (HO2.out.fx hfs (fun b e hb=>ZbK)) (RP.fx HP2.out hfs (fun b e=>by omega)) (by simpa using HB2.out.set 1 (.slice q (nl.length+1) cap)) (HF2.out.trans (hfs.mono (fun b e=>.inr (.inl e))))):P:=h
theorem Zae{P:Prop}(h:P:=by intro listed a w10 hr hj;have hu:∀k,k<24→up listed k:=fun k hk=>all_up Zw hj.lsize hr k hk;obtain⟨f,hae,hcm,hf⟩:=hj.opened [81,82,83,84,85,86,87,88,89,90,91,92,93,94,95,96,97,98,99,100,101,102,103,4] Zw;simp only[Zs]at hae;subst hae;replace hcm:Below wr.heap.size wr w10:=hcm;have E23:f 4=erV R:=hf 23 _ _ rfl rfl (hu 23 (by omega));have HF:=Zh (show Below wr.heap.size wr w10 from hcm);clear hcm hf hj hu hr;rw[E23];clear E23;generalize f 81=g81;generalize f 82=g82;generalize f 83=g83;generalize f 84=g84;generalize f 85=g85;generalize f 86=g86;generalize f 87=g87;generalize f 88=g88;generalize f 89=g89;generalize f 90=g90;generalize f 91=g91;generalize f 92=g92;generalize f 93=g93;generalize f 94=g94;generalize f 95=g95;generalize f 96=g96;generalize f 97=g97;generalize f 98=g98;generalize f 99=g99;generalize f 100=g100;generalize f 101=g101;generalize f 102=g102;generalize f 103=g103;clear f;exact hQ.out _ _ _ _ _ _ _ _ _ _ _ _ _ _ _ _ _ _ _ _ _ _ _ _ HF.out):P:=h
theorem Zaf{P:Prop}(h:P:=by have e1:f 53=_:=atg hf hr 2;have e2:f 55=_:=atg hf hr 4;refine GJ.op hj hdo hr rfl _ hdi (fun K hK=>?_);clear hj hf hdo hdi;rw[e1,e2]at hK⊢;clear e1 e2;go_simp;refine(containsD_c _ w9 _ c.dom (hdm.out.after hcm)).mono ?_;rw[hdk.out];exact Zl):P:=h
theorem Zag{P:Prop}(h:P:=by go_wp2_with fail;go_loopg[13]a.length(fun g t wx=>∃i:Nat,i≤a.length∧g=a.length-i∧t=.int .i64 (i:Int)∧Hid (∀j,j<i→a.getD j (0,0)=b.getD j (0,0))∧Hid (Below w.heap.size w wx));(case atStart=>exact ZO);case round=>obtain⟨i,hi,rfl,rfl,heq,hbl⟩:=hrel;by_cases hlt:i<a.length;(·obtain⟨ba,oa,ca,ea,_,_,_,la,hca⟩:=SlR.at_ (0,0) (H.out.after hbl.out) (by omega);obtain⟨bb,ob,cb,eb,_,_,_,lb,hcb⟩:=SlR.at_ (0,0) (K.out.after hbl.out) Zdi;injection ea with ea _ ec;injection eb with eb _ ed;subst ea eb ec ed;have hib:i<b.length:=Zdi;have x0:wr.cell? ⟨ba,oa+i*2,none⟩=some (.int .i64 (a.getD i (0,0)).1):=hca i hlt 0 (by omega);have x1:wr.cell? ⟨ba,oa+i*2+1,none⟩=some (.int .i64 (a.getD i (0,0)).2):=hca i hlt 1 (by omega);have y0:wr.cell? ⟨bb,ob+i*2,none⟩=some (.int .i64 (b.getD i (0,0)).1):=hcb i hib 0 (by omega);exact Zy);·exact ZJ):P:=h
theorem Zah{P:Prop}(h:P:=by refine GJ.op hj hdo hr rfl _ hdi (fun K hK=>?_);exact Zv):P:=h
theorem Zai{P:Prop}(h:P:=by simp[results,Tryz.results176,go_sem,clV,Cl.kind,Cl.dom,Cl.idx,Cl.a,Cl.b,Cl.off,e0,e1,e2,e3,e4,e5,e6,e7]):P:=h
theorem Zaj{P:Prop}(h:P:=by (have e:(w.alloc (.cells (flatP [([],4)]).toArray 155)).heap.size=w.heap.size+1:=by simp);rw[e]at this;exact SlH.mono this (fun b hb _=>by omega)):P:=h
theorem Zak{P:Prop}(h:P:=by clear gg;clear hj hf hdo hdi;go_simp;exact hK _ _ (fun k v _ _ h=>h) (fun t ht=>rfl) (hcm.trans (Zr.mono hcm.size))):P:=h
theorem Zal{P:Prop}(h:P:=by rw[List.drop_eq_getElem_cons hkl]at hrr;injection hrr with _ hrr):P:=h
theorem Zam{P:Prop}(h:P:=by have gg:f 34=_:=atg hf hr 6;refine GJ.no hj hdo hr rfl _ hdi rfl (j:=6) rfl rfl (c:=true) gg rfl (fun k v _ _ h=>h) (fun t ht=>rfl) ?_;exact hcm):P:=h
theorem Zan{P:Prop}(h:P:=by have gg:f 58=_:=atg hf hr 7;have e1:f 59=_:=atg hf hr 8;have kc:=keep_cell hcm hkp;have klt:=Zq kc;refine GJ.yes hj hdo hr rfl _ hdi rfl (j:=7) rfl rfl (c:=false) gg rfl (fun K hK=>?_);clear gg;clear hj hf hdo hdi;rw[e1]at hK⊢;clear e1;go_simp;refine(has_c _ w9 c.kind 6 PB _ (keep_cell hcm hkp) (SlP.after hpl hcm)).mono ?_;rw[hb6.out];exact Zl):P:=h
theorem Zao{P:Prop}(h:P:=by intro listed a w10 hr hj;have hu:∀k,k<32→up listed k:=fun k hk=>all_up Zw hj.lsize hr k hk;obtain⟨f,hae,hcm,hf⟩:=hj.opened [3,4,5,6,7,8,9,10,11,12,13,14,15,16,17,18,19,20,21,22,23,24,25,26,27,28,29,30,31,32,33,34] Zw;simp only[Zs]at hae;subst hae;replace hcm:Below w.heap.size w w10:=hcm;have E31:f 34=.bool true:=hf 31 _ _ rfl rfl (hu 31 (by omega));have HCM:=Zh hcm;clear hcm hf hj hr hu;rw[E31];clear E31;exact hQ.out _ (f 3) (f 4) (f 5) (f 6) (f 7) (f 8) (f 9) (f 10) (f 11) (f 12) (f 13) (f 14) (f 15) (f 16) (f 17) (f 18) (f 19) (f 20) (f 21) (f 22) (f 23) (f 24) (f 25) (f 26) (f 27) (f 28) (f 29) (f 30) (f 31) (f 32) (f 33) HCM.out):P:=h
theorem Zap{P:Prop}(h:P:=by (obtain rfl:i=l.length:=by omega);(have HE:Hid (B=false):=by show _=_;rw[←HB.out];exact any_not heq.out);go_wp2_with fail;go_ret;exact⟨_,rfl,by rw[HE.out];rfl,hbl.out⟩):P:=h
theorem Zaq{P:Prop}(h:P:=by go_enter Tryz.func130,Tryz.ntmps130;go_wp2_with fail;go_quiet(fail);go_wp2_with fail;refine(rfail_c _ p ts en _ (H.out.after (below_drewN _ _ _))).mono ?_;rintro e w2⟨rfl,hp2,hf2⟩;have HP2:=Zh hp2;have HF2:=Zh ((Fx.of_below (S:=fun b=>b=p) (below_drewN _ _ _)).trans hf2);clear hp2 hf2;go_wp2_with fail;go_ret;exact⟨rfl,HP2.out,HF2.out⟩):P:=h
theorem Zar{P:Prop}(h:P:=by have HS:=Zh hs;have HE:=Zh he;clear hs he;go_wp2_with fail;go_quiet(fail);go_wp2_with fail;go_roundg(a.length-(i+1));(case measure=>omega);case rel=>refine⟨i+1,by omega,rfl,by go_num,fun j hj=>?_,hbl.out.trans (below_drewN _ _ _)⟩;rcases Nat.lt_or_ge j i with h|h;(·exact heq.out j h);·(obtain rfl:j=i:=by omega);exact HS.out.trans HE.out):P:=h
theorem Zas{P:Prop}(h:P:=by refine GJ.yes hj hdo hr rfl _ hdi rfl (j:=31) rfl rfl (c:=false) gg rfl (fun K hK=>?_);clear gg;exact Zb):P:=h
theorem Zat{P:Prop}(h:P:=by have gg:f 62=_:=atg hf hr 11;refine GJ.nou hj hdo hr rfl _ hdi rfl (j:=11) rfl rfl gg (fun k v _ _ h=>h) (fun t ht=>rfl) ?_;exact hcm):P:=h
theorem Zau{P:Prop}(h:P:=by have gg:f 20=_:=atg hf hr 17;refine GJ.yes hj hdo hr rfl _ hdi rfl (j:=17) rfl rfl (c:=false) gg rfl (fun K hK=>?_);clear gg;exact Zo):P:=h
theorem Zav{P:Prop}(h:P:=by rcases Nat.lt_or_ge kk ts.length with h|h;exact h;rw[List.drop_eq_nil_of_le h]at hrr;cases hrr):P:=h
theorem Zaw{P:Prop}(h:P:=by go_wp2_with fail;refine HC.out.mono ?_;rintro e w1⟨z,rfl,hz,hb⟩;have HBB:=Zh hb;have HZ:=Zh hz;clear hb hz;go_wp2_with fail;go_ret;exact⟨ret_bool HZ.out,HBB.out⟩):P:=h
theorem Zax{P:Prop}(h:P:=by 
 rw[←HE.out];rintro e w1⟨hb1,he⟩;have HB1:=Zh (HBL.out.trans hb1);clear hb1 z0 z1 z2 z3 z4 z7 zl f3;obtain⟨X,hX⟩:∃X,itemCk ns own s c=X:=⟨_,rfl⟩;rw[hX]at he;have HX:=Zh hX;clear hX HE
 cases X with
 |error er=>have he:e=.returned (failV er):=he;subst he;simp only[failV];go_wp2_with fail;go_ret;have hr:RetS w base ps (.error er) (.returned (failV er)) w1:=⟨HB1.out,rfl⟩;rw[←HX.out]at hr;exact hr
 |ok s1=>obtain⟨rfl,va1,vn1,hs1⟩:=he;have HS1:=Zh hs1;clear hs1;go_wp2_with fail;go_ret;have hr:RetS w base ps (.ok s1) (.returned .nilIface) w1:=⟨HB1.out,rfl,_,_,HS1.out⟩;rw[←HX.out]at hr;exact hr):P:=h
theorem Zay{P:Prop}(h:P:=by have hbw:Below wr.heap.size wr w9:=hcm.below nS;exact Zt):P:=h
theorem Zaz{P:Prop}(h:P:=by 
 intro W18 y81 y82 y83 y84 y85 y86 y87 y88 y89 y90 y91 y92 y93 y94 y95 y96 y97 y98 y99 y100 y101 y102 y103 hb18;have HB18:=Zh hb18;clear hb18 hq2 hq3
 cases O with
 |none=>(have HRE:Hid (RS=.ok (s,reps+s.replicas)):=by show _=_;rw[←HRS.out];exact HSB2.out);simp only[erV];go_wp2_with fail;go_ret;rw[HRE.out];exact⟨HBW16.out.trans (Fx.of_below HB18.out),rfl,_,_,_,_,_,_,_,_,_,_,_,_,_,_,_,_,_,_,_,_,HK16.out.after HB18.out⟩
 |some er=>(have HRE:Hid (RS=.error er):=by show _=_;rw[←HRS.out];exact HSB2.out);simp only[erV,failV];go_wp2_with fail;go_ret;rw[HRE.out];exact⟨HBW16.out.trans (Fx.of_below HB18.out),rfl⟩):P:=h
theorem ZaA{P:Prop}(h:P:=by intro listed a w10 hr hj;have hu:∀k,k<23→up listed k:=fun k hk=>all_up Zw hj.lsize hr k hk;obtain⟨f,hae,hcm,hf⟩:=hj.opened [28,29,30,31,32,33,34,35,36,37,38,39,40,41,42,43,44,45,46,47,48,49,27] Zw;simp only[Zs]at hae;subst hae;replace hcm:Below w2.heap.size w2 w10:=hcm;have E:f 27=.bool true:=hf 22 _ _ rfl rfl (hu 22 (by omega));have HCM:=Zh hcm;clear hcm hf hj hr hu;rw[E];clear E;exact hQ.out _ (f 28) (f 29) (f 30) (f 31) (f 32) (f 33) (f 34) (f 35) (f 36) (f 37) (f 38) (f 39) (f 40) (f 41) (f 42) (f 43) (f 44) (f 45) (f 46) (f 47) (f 48) (f 49) HCM.out):P:=h
theorem ZaB{P:Prop}(h:P:=by rw[List.getD_eq_getElem?_getD,List.getElem?_eq_getElem hlt];exact List.getElem_mem hlt):P:=h
theorem ZaC{P:Prop}(h:P:=by refine GJ.op hj hdo hr rfl _ hdi (fun K hK=>?_);clear hj hf hdo hdi;go_simp;exact hK _ _ (fun k v _ _ h=>h) (fun t ht=>rfl) (hcm.keep (by decide) (by decide) (by decide) (by decide) rfl rfl Zr)):P:=h
theorem ZaD{P:Prop}(h:P:=by refine GJ.yes hj hdo hr rfl _ hdi rfl (j:=7) rfl rfl (c:=false) gg rfl (fun K hK=>?_);clear gg;exact Zb):P:=h
theorem ZaE{P:Prop}(h:P:=by have e1:f 30=_:=atg hf hr 2;have kc:=keep_cell hcm hkp;have klt:=Zq kc;refine GJ.op hj hdo hr rfl _ hdi (fun K hK=>?_);clear hj hf hdo hdi;rw[e1]at hK⊢;clear e1;go_simp;refine(has_c _ w9 c.kind 3 PB _ (keep_cell hcm hkp) (SlP.after hpl hcm)).mono ?_;rw[hb3.out];exact Zl):P:=h
theorem ZaF{P:Prop}(h:P:=by intro listed a w10 hr hj;have hu:∀k,k<18→up listed k:=fun k hk=>all_up Zw hj.lsize hr k hk;obtain⟨f,hae,hcm,hf⟩:=hj.opened [51,52,53,54,55,56,57,58,59,60,61,62,63,64,65,66,67,50] Zw;simp only[Zs]at hae;subst hae;replace hcm:Below w2.heap.size w2 w10:=hcm;have E:f 50=.bool false:=hf 17 _ _ rfl rfl (hu 17 (by omega));have HCM:=Zh hcm;clear hcm hf hj hr hu;rw[E];clear E;exact hQ.out _ (f 51) (f 52) (f 53) (f 54) (f 55) (f 56) (f 57) (f 58) (f 59) (f 60) (f 61) (f 62) (f 63) (f 64) (f 65) (f 66) (f 67) HCM.out):P:=h
theorem ZaG{P:Prop}(h:P:=by have gg:f 20=_:=atg hf hr 17;have e1:f 24=_:=atg hf hr 21;have e2:f 28=_:=atg hf hr 25;have q1:=Q1.out;have q2:=Q2.out;have q3:=Q3.out;have q7:=Q7.out;have q8:=Q8.out;refine GJ.yes hj hdo hr rfl _ hdi rfl (j:=17) rfl rfl (c:=false) gg rfl (fun K hK=>?_);clear gg;exact Zv):P:=h
theorem ZaH{P:Prop}(h:P:=by have hbw:Below wr.heap.size wr w9:=hcm.below nS;exact Zp):P:=h
theorem ZaI{P:Prop}(h:P:=by obtain⟨p,_,rfl⟩:=List.mem_map.1 hr;rfl):P:=h
theorem ZaJ{P:Prop}(h:P:=by go_enter Tryz.func72,Tryz.ntmps72;go_wp2_with fail;go_ret3;exact⟨_,rfl,SlP.new w [([],4)] 1 rfl (by omega),held_alloc Zr⟩):P:=h
theorem ZaK{P:Prop}(h:P:=by obtain⟨kc0,kl⟩:=Zk hcm (HC.out.cell 7) Zi7;exact Za):P:=h
theorem ZaL{P:Prop}(h:P:=by rcases r1 with _|⟨t1,r1⟩;(·simp at h1);·obtain⟨u,h3,h4⟩:=h.ok ts a t1 r1 hp;rcases u1 with _|⟨t0,u1⟩;(·simp only[List.nil_append,List.cons.injEq]at h1;obtain⟨rfl,rfl⟩:=h1;exact⟨u,h3,fun r'=>by show andP (P _) f=_;rw[h4 r'];exact h2 r'⟩);·simp only[List.cons_append,List.cons.injEq]at h1;obtain⟨rfl,rfl⟩:=h1;refine⟨u++t1::u1,by rw[h3];simp,fun r'=>?_⟩;show andP (P _) f=_;rw[List.append_assoc,List.cons_append,h4 (u1++t::r')];exact h2 r'):P:=h
theorem ZaM{P:Prop}(h:P:=by refine GJ.op hj hdo hr rfl _ hdi (fun K hK=>?_);clear hj hf hdo hdi;rw[e1]at hK⊢;clear e1;go_simp;exact hK _ _ (fun k v _ _ h=>h) (fun t ht=>rfl) (hcm.keep Zr)):P:=h
theorem ZaN{P:Prop}(h:P:=by go_wp2_with fail;go_ret;rw[HE.out];exact⟨rfl,Below.refl _ _⟩):P:=h
theorem ZaO{P:Prop}(h:P:=by have e1:f 29=_:=atg hf hr 1;have e2:f 31=_:=atg hf hr 3;refine GJ.op hj hdo hr rfl _ hdi (fun K hK=>?_);clear hj hf hdo hdi;rw[e1,e2]at hK⊢;clear e1 e2;go_simp;refine(right_n w9 c.idx b3).mono ?_;rw[hr3.out];exact Zl):P:=h
theorem ZaP{P:Prop}(h:P:=by clear hln;go_wp2_with fail;refine(has_c _ _ c.kind 1 PB _ hkp hpl.out).mono ?_;rw[hb1.out];rintro e v1⟨rfl,hb⟩;have hB1:Hid (Below w2.heap.size w2 v1):=hb;replace hpl:=Zh (SlP.after hpl.out hb);replace hk1:=keep_cell hb hk1;replace hkp:=keep_cell hb hkp;have hl1:=World.block_lt_of_cell? _ _ hk1;have hm1:=Zq hkp;clear hb;go_wp2_with fail;exact hQ.out _ _ _ _ _ _ _ _ _ _ _ _ _ _ _ _ _ _ _ _ _ _ _ _ _ _ _ _ _ _ _ _ _ _ _ hB1.out):P:=h
theorem ZaQ{P:Prop}(h:P:=by simpa using this):P:=h
theorem ZaR{P:Prop}(h:P:=by go_enter Tryz.func164,Tryz.ntmps164;go_wp2_with fail;go_ret;exact⟨by rfl,Below.refl _ _⟩):P:=h
theorem ZaS{P:Prop}(h:P:=by unfold rightW;decide):P:=h
theorem ZaT{P:Prop}(h:P:=by simp[results,Tryz.results85,go_sem,clV,Cl.kind,Cl.dom,Cl.idx,Cl.a,Cl.b,Cl.off,e0,e1,e2,e3,e4,e5,e6,e7]):P:=h
theorem ZaU{P:Prop}(h:P:=by refine GJ.op hj hdo hr rfl _ hdi (fun K hK=>?_);clear hj hf hdo hdi;rw[e1]at hK⊢;clear e1;go_simp;exact hK _ _ (fun k v _ _ h=>KS.st _ _ _ _ (Fx.of_below (held_alloc Zr)) h) (fun t ht=>⟨w9.heap.size,hcm.1.size,rfl,Box.new _ _ _⟩) ⟨hcm.1.below (held_alloc Zr),fun u=>RP.after (hcm.2.1 (fun u'=>u (up_keep u'))) (held_alloc Zr),fun u=>RP.after (hcm.2.2 (up_set u (by decide))) (held_alloc Zr)⟩):P:=h
theorem ZaV{P:Prop}(h:P:=by have gg:f 34=_:=atg hf hr 6;refine GJ.yes hj hdo hr rfl _ hdi rfl (j:=6) rfl rfl (c:=false) gg rfl (fun K hK=>?_);clear gg;exact Zo):P:=h
theorem ZaW{P:Prop}(h:P:=by have nu:¬up listed 3:=not_up hun;refine GJ.op hj hdo hr rfl _ hdi (fun K hK=>?_);clear hj hf hdo hdi;rw[e1]at hK⊢;clear e1;go_simp;refine(rname_c w9 p ts en s hts (hcm.2.1 nu)).mono ?_;unfold RR;rw[hn.out];rintro e w10⟨rfl,hp10,hf10⟩;exact hK _ _ (fun k v _ _ h=>KS.st _ _ _ _ hf10 h) (fun t ht=>rfl) ⟨hcm.1.trans hf10,fun u=>absurd (up_self Zea) u,fun _=>hp10⟩):P:=h
theorem ZaX{P:Prop}(h:P:=by exact hK _ _ (fun k v _ _ h=>KS.st _ _ _ _ hf11 h) (fun t ht=>trivial) (CT.call Zea ⟨w9,hbw,hf11,hown11,hor11⟩)):P:=h
theorem ZaY{P:Prop}(h:P:=by rw[HL6.out,List.take_succ_eq_append_getElem hlt,List.map_append,List.append_assoc];congr 2;show[_]=[_];congr 1;rw[←HP.out,List.getD_eq_getElem?_getD,List.getElem?_eq_getElem hlt];rfl):P:=h
theorem ZaZ{P:Prop}(h:P:=by rw[List.drop_eq_getElem_cons hlt,List.getD_eq_getElem?_getD,List.getElem?_eq_getElem hlt];rfl):P:=h
theorem Zba{P:Prop}(h:P:=by refine GJ.op hj hdo hr rfl _ hdi (fun K hK=>?_);clear hj hf hdo hdi;rw[e1,e2,e3]at hK⊢;clear e1 e2 e3;go_simp;refine(kthere_c w9 (HK.out.after hcm) c.dom c.idx).mono ?_;rw[HT.out];exact Zl):P:=h
theorem Zbb{P:Prop}(h:P:=by refine GJ.op hj hdo hr rfl _ hdi (fun K hK=>?_);clear hj hf hdo hdi;exact ZI):P:=h
theorem Zbc{P:Prop}(h:P:=by (have e0:∀r',moreP (a::r')=.ok ([],a::r'):=fun r'=>by cases r'<;>rw[moreP,if_neg ha]);rw[e0];refine⟨fun t r e=>ZdQ,fun v t r e=>?_,fun v r e=>?_⟩;(·injection e with e;injection e with e1 e2;injection e2 with e2 e3;subst e1 e2 e3;exact⟨[],rfl,fun r'=>e0 r'⟩);·injection e with e;injection e with e1 e2;exact⟨[],by rw[←e2];rfl⟩):P:=h
theorem Zbd{P:Prop}(h:P:=by have gg:f 34=_:=atg hf hr 6;have e1:f 37=_:=atg hf hr 9;have kc:=keep_cell hcm hkp;have klt:=Zq kc;refine GJ.yes hj hdo hr rfl _ hdi rfl (j:=6) rfl rfl (c:=false) gg rfl (fun K hK=>?_);clear gg;clear hj hf hdo hdi;rw[e1]at hK⊢;clear e1;go_simp;refine(has_c _ w9 c.kind 4 PB _ (keep_cell hcm hkp) (SlP.after hpl hcm)).mono ?_;rw[hb4.out];exact Zl):P:=h
theorem Zbe{P:Prop}(h:P:=by have gg:f 49=_:=atg hf hr 21;refine GJ.no hj hdo hr rfl _ hdi rfl (j:=21) rfl rfl (c:=false) gg rfl (fun k v _ _ h=>h) (fun t ht=>rfl) ?_;exact(hcm.trans (Zr.mono hcm.size))):P:=h
theorem Zbf{P:Prop}(h:P:=by go_enter Tryz.func175,Tryz.ntmps175;go_wp2_with fail;go_quiet(fail);go_wp2_with fail;go_ret;exact⟨rfl,below_drewN _ _ _⟩):P:=h
theorem Zbg{P:Prop}(h:P:=by go_wp2_with fail;go_ret;rw[HE.out];exact⟨rfl,HBW2.out⟩):P:=h
theorem Zbh{P:Prop}(h:P:=by rw[opt_and]at h3;obtain⟨_,_,h3⟩:=bind_some h3;rw[opt_and]at h3;obtain⟨_,_,h3⟩:=bind_some h3;rw[←some_inj h3]):P:=h
theorem Zbi{P:Prop}(h:P:=by refine GJ.op hj hdo hr rfl _ hdi (fun K hK=>?_);clear hj hf hdo hdi;go_simp;exact hK _ _ (fun k v _ _ h=>h) (fun t ht=>rfl) (hcm.keep (by decide) (by decide) rfl Zr)):P:=h
theorem Zbj{P:Prop}(h:P:=by rcases hor with e'|e';(·rw[e']at e;exact h1 e);·rw[e']at e;injection e with e;omega):P:=h
theorem Zbk{P:Prop}(h:P:=by refine items_ind ?_ ?_ ?_;(·intro o l h;rw[items_nil h];simp);(·intro o l c m h he;have:=skp_len false l;rw[h]at this;rw[items_bad h he];simp at this⊢;omega);·intro o l c m h he ih;have:=skp_len false l;rw[h]at this;obtain⟨a1,a2,_⟩:=fst1_text he;rw[List.length_drop]at ih;rw[items_cons h he,List.length_cons];omega):P:=h
theorem Zbl{P:Prop}(h:P:=by go_wp2_with fail;go_quiet(fail);go_wp2_with fail;go_ret;rw[HE2.out];exact⟨rfl,HB0.out.trans (below_drewN _ _ _)⟩):P:=h
theorem Zbm{P:Prop}(h:P:=by show _=_;rw[←HR.out];exact decide_eq_false fun e=>hl (by rw[e])):P:=h
theorem Zbn{P:Prop}(h:P:=by go_enter Tryz.func91,Tryz.ntmps91;go_wp2_with fail;go_ret;exact⟨rfl,Below.refl _ _⟩):P:=h
theorem Zbo{P:Prop}(h:P:=by refine GJ.op hj hdo hr rfl _ hdi (fun K hK=>?_);clear hj hf hdo hdi;rw[e1,e2,e3]at hK⊢;clear e1 e2 e3;exact ZG):P:=h
theorem Zbp{P:Prop}(h:P:=by refine⟨xs,rows_of h1 (fun i hi=>(h2 i hi).1),fun p hp=>?_,by unfold reachBytes at h3;omega⟩;obtain⟨i,hi,rfl⟩:=List.getElem_of_mem hp;exact(h2 i hi).2):P:=h
theorem Zbq{P:Prop}(h:P:=by have gg:f 34=_:=atg hf hr 6;have e1:f 36=_:=atg hf hr 8;have e2:f 38=_:=atg hf hr 10;refine GJ.yes hj hdo hr rfl _ hdi rfl (j:=6) rfl rfl (c:=false) gg rfl (fun K hK=>?_);clear gg;clear hj hf hdo hdi;rw[e1,e2]at hK⊢;clear e1 e2;go_simp;refine(right_n w9 c.a b4).mono ?_;rw[hr4.out];exact Zl):P:=h
theorem Zbr{P:Prop}(h:P:=by first|(symm;apply decide_eq_true;omega)|(symm;apply decide_eq_false;omega)|(apply decide_eq_decide.2;omega)):P:=h
theorem Zbs{P:Prop}(h:P:=by have gg:f 62=_:=atg hf hr 11;refine GJ.no hj hdo hr rfl _ hdi rfl (j:=11) rfl rfl (c:=false) gg rfl (fun k v _ _ h=>h) (fun t ht=>rfl) ?_;exact hcm):P:=h
theorem Zbt{P:Prop}(h:P:=by simp[results,Tryz.results126,go_sem];try rfl):P:=h
theorem Zbu{P:Prop}(h:P:=by intro W3 y28 y29 y30 y31 y32 y33 y34 y35 y36 y37 y38 y39 y40 y41 y42 y43 y44 y45 y46 y47 y48 y49 y50 y51 y52 y53 y54 y55 y56 hb3;clear hq1 e1 e2 e3 e4 hR hn1;go_wp2_with fail;go_ret;exact retX_of HM.out (HBW2.out.trans (Fx.of_below hb3)) ⟨_,_,_,_,_,_,_,_,_,_,_,_,_,_,_,_,_,_,_,_,HK2.out.after hb3⟩):P:=h
theorem Zbv{P:Prop}(h:P:=by refine GJ.op hj hdo hr rfl _ hdi (fun K hK=>?_);clear hj hf hdo hdi;rw[e1,e2]at hK⊢;clear e1 e2;exact ZG):P:=h
theorem Zbw{P:Prop}(h:P:=by intro listed a w9 i hr hj;obtain⟨hi12,hun,_,_,_⟩:=ready_mem hr;have h12:i∈List.range 18:=Zm hi12;simp only[List.range,List.range.loop,List.mem_cons,List.not_mem_nil,or_false]at h12;obtain⟨f,hae,hcm,hf,hdo,hdi⟩:=hj.open3 [51,52,53,54,55,56,57,58,59,60,61,62,63,64,65,66,67,50] Zw Zw;simp only[Zs]at hae;subst hae;replace hcm:Below w2.heap.size w2 w9:=hcm;rcases h12 with rfl|rfl|rfl|rfl|rfl|rfl|rfl|rfl|rfl|rfl|rfl|rfl|rfl|rfl|rfl|rfl|rfl|rfl;(·exact ZU);(·exact Zaa);(·exact Zgd);(·exact ZU);(·exact Zfk);(·exact Zaf);(·exact Zfm);(·exact ZfF);(·exact Zfl);(·exact Zan);(·exact Zge);(·exact ZfX);(·have gg:f 62=_:=atg hf hr 11;refine GJ.yes hj hdo hr rfl _ hdi rfl (j:=11) rfl rfl (c:=true) gg rfl (fun K hK=>?_);clear gg;exact Zo);(·have gg:f 62=_:=atg hf hr 11;have e1:f 63=_:=atg hf hr 12;obtain⟨kc,klt⟩:=kcl hcm hk2;exact Zfp);(·have gg:f 62=_:=atg hf hr 11;have e1:f 64=_:=atg hf hr 13;exact Zfp);(·have gg:f 58=_:=atg hf hr 7;have e1:f 62=_:=atg hf hr 11;have e2:f 65=_:=atg hf hr 14;refine GJ.yes hj hdo hr rfl _ hdi rfl (j:=7) rfl rfl (c:=false) gg rfl (fun K hK=>?_);clear gg;exact Zv);(·exact ZfY);·exact Zfy):P:=h
theorem Zbx{P:Prop}(h:P:=by intro listed a w9 i hr hj;obtain⟨hi12,hun,_,_,_⟩:=ready_mem hr;have h12:i∈List.range 18:=Zm hi12;simp only[List.range,List.range.loop,List.mem_cons,List.not_mem_nil,or_false]at h12;obtain⟨f,hae,hcm,hf,hdo,hdi⟩:=hj.open3 [51,52,53,54,55,56,57,58,59,60,61,62,63,64,65,66,67,50] Zw Zw;simp only[Zs]at hae;subst hae;replace hcm:Below w2.heap.size w2 w9:=hcm;rcases h12 with rfl|rfl|rfl|rfl|rfl|rfl|rfl|rfl|rfl|rfl|rfl|rfl|rfl|rfl|rfl|rfl|rfl|rfl;(·exact ZU);(·exact Zaa);(·exact Zgd);(·exact ZU);(·exact Zfk);(·exact Zaf);(·exact Zfm);(·exact ZfF);(·exact ZK);(·exact ZK);(·exact ZK);(·exact ZK);(·exact Zat);(·exact Zat);(·exact Zat);(·exact ZK);(·have e1:f 58=_:=atg hf hr 7;exact ZQ);·exact Zfy):P:=h
theorem Zby{P:Prop}(h:P:=by intro W y3 y4 y5 y6 y7 y8 y9 y10 y11 y12 y13 y14 y15 y16 y17 y18 y19 y20 y21 y22 y23 y24 y25 y26 y27 y28 y29 y30 y31 y32 y33 y34 y35 y36 y37 y38 y39 y40 y41 y42 y43 y44 y45 y46 hbW;exact ZV):P:=h
theorem Zbz{P:Prop}(h:P:=by obtain⟨kc,klt⟩:=kcl hcm c3;exact ZQ):P:=h
theorem ZbA{P:Prop}(h:P:=by have gg:f 8=_:=atg hf hr 5;have e1:f 13=_:=atg hf hr 10;obtain⟨kc,klt⟩:=kcl hcm c3;exact ZR):P:=h
theorem ZbB{P:Prop}(h:P:=by have gg:f 8=_:=atg hf hr 5;have e1:f 15=_:=atg hf hr 12;obtain⟨kc,klt⟩:=kcl hcm c0;exact ZR):P:=h
theorem ZbC{P:Prop}(h:P:=by have gg:f 8=_:=atg hf hr 5;have e1:f 11=_:=atg hf hr 8;obtain⟨kc,klt⟩:=kcl hcm c1;exact ZR):P:=h
theorem ZbD{P:Prop}(h:P:=by have gg:f 8=_:=atg hf hr 5;have e1:f 9=_:=atg hf hr 6;obtain⟨kc,klt⟩:=kcl hcm c3;exact ZR):P:=h
theorem ZbE{P:Prop}(h:P:=by obtain⟨t,r1,h1,h2⟩:=andP_ok e;injection h2 with h2;injection h2 with e1 e2;subst e1 e2;obtain⟨h3,h4⟩:=nextP_len h1;exact⟨t,h3,h4,rfl⟩):P:=h
theorem ZbF{P:Prop}(h:P:=by refine GJ.yes hj hdo hr rfl _ hdi rfl (j:=6) rfl rfl (c:=false) gg rfl (fun K hK=>?_);clear gg;exact Zb):P:=h
theorem ZbG{P:Prop}(h:P:=by go_wp2_with(at_builtin;refine Lib.wpList_append_run _ rfl _ _ _ _ rfl _ _ rfl rfl _ _ hr1 ?_);all_goals(go_ret;first|exact⟨_,rfl,HO.out,HF.out,HB.out⟩|exact⟨_,rfl,HO.out,by rw[ownCap p rows.length rows.length c];exact HF.out,by rw[ownCap p rows.length rows.length c];exact HB.out⟩)):P:=h
theorem ZbH{P:Prop}(h:P:=by go_upto_region 16 with fail;go_quiet(fail);go_upto_region 17 with fail;go_quiet(fail);go_wp2_with fail;go_roundg(cs.length-(k+1));(case measure=>omega);case rel=>exact⟨k+1,by omega,rfl,by rw[HRS.out,q1];simp,by go_num,(HBI.out.trans ((below_drewN _ _ _).mono HBI.out.size))⟩):P:=h
theorem ZbI{P:Prop}(h:P:=by refine GJ.op hj hdo hr rfl _ hdi (fun K hK=>?_);clear hj hf hdo hdi;go_simp;exact hK _ _ (fun k v _ _ h=>h) (fun t ht=>rfl) (hcm.keep Zr)):P:=h
theorem ZbJ{P:Prop}(h:P:=by refine GJ.op hj hdo hr rfl _ hdi (fun K hK=>?_);clear hj hf hdo hdi;rw[e1]at hK⊢;clear e1;rw[es]at hK⊢;go_simp;refine(obey_c (fun _=>True) w9 c.off _ [(bt,7),((!bf),6)] (SlR.ofBox (n:=2) _ hbs rfl rfl (fun r hr=>ZaI) trivial (by decide))).mono ?_;rw[HR.out];exact Zl):P:=h
theorem ZbK{P:Prop}(h:P:=by have:=hb.1;omega):P:=h
theorem ZbL{P:Prop}(h:P:=by obtain⟨b',o',c',e',_,_,hlt',_⟩:=hs.2.at_ (by omega);injection e' with e' _ _;injection e' with e';injection e' with e1 e2 e3;omega):P:=h
theorem ZbM{P:Prop}(h:P:=by rw[hx]at x0 x1 HCALL;have HX:=Zh hx;clear hca hx;(have il:(i:Int)<(l.length:Int):=by omega);(have i0:(0:Int)≤(i:Int):=by omega);go_wp2_with fail;refine HCALL.out.mono ?_;rintro e w1⟨rfl,hb1⟩;have HB1:=Zh (hbl.out.trans (hb1.mono hbl.out.size));clear hb1 x0 x1;exact ZB):P:=h
theorem ZbN{P:Prop}(h:P:=by refine GJ.op hj hdo hr rfl _ hdi (fun K hK=>?_);clear hj hf hdo hdi;rw[e1]at hK⊢;clear e1;rw[es]at hK⊢;go_simp;refine(obey_c (fun _=>True) w9 c.off _ [(b1,2)] (SlR.ofBox (n:=1) _ hbs rfl rfl (fun r hr=>ZaI) trivial (by decide))).mono ?_;rw[HR.out];exact Zl):P:=h
theorem ZbO{P:Prop}(h:P:=by have nS:¬up listed 11:=nu hj hun;have hbw:Below wr.heap.size wr w9:=hcm.below nS;refine GJ.op hj hdo hr rfl _ hdi (fun K hK=>?_);clear hj hf hdo hdi;rw[e1,e2]at hK⊢;clear e1 e2;go_simp;exact hK _ _ (fun k v _ _ h=>h) (fun t ht=>rfl) (hcm.keep (by decide) (by rfl))):P:=h
theorem ZbP{P:Prop}(h:P:=by intro W y3 y4 y5 y6 y7 y8 y9 y10 y11 y12 y13 y14 y15 y16 y17 y18 y19 y20 y21 y22 y23 y24 y25 y26 y27 y28 y29 y30 y31 y32 y33 hbW;exact ZV):P:=h
theorem ZbQ{P:Prop}(h:P:=by refine GJ.yes hj hdo hr rfl _ hdi rfl (j:=18) rfl rfl (c:=true) gg rfl (fun K hK=>?_);exact ZE):P:=h
theorem ZbR{P:Prop}(h:P:=by have e1:f 8=_:=atg hf hr 5;have e2:f 18=_:=atg hf hr 15;exact Zah):P:=h
theorem ZbS{P:Prop}(h:P:=by refine GJ.yes hj hdo hr rfl _ hdi rfl (j:=4) rfl rfl (c:=true) gg rfl (fun K hK=>?_);exact ZE):P:=h
theorem ZbT{P:Prop}(h:P:=by refine⟨_,rfl,?_,?_,.inl rfl⟩;(·rw[hW1,←hB,←hN];exact OwnC.shifted (w:=w.drew) hge hb hsc (by omega) hmax h.1 hr hi hcs);·rw[hW1];exact((Fx.refl _ w).drew.trans (Fx.setCells B _ _)|>.trans (Fx.setCells row _ _)).mono (fun b e=>by rw[e];rfl)):P:=h
theorem ZbU{P:Prop}(h:P:=by have gg:f 8=_:=atg hf hr 5;have e1:f 14=_:=atg hf hr 11;exact ZR):P:=h
theorem ZbV{P:Prop}(h:P:=by have gg:f 8=_:=atg hf hr 5;have e1:f 16=_:=atg hf hr 13;exact ZR):P:=h
theorem ZbW{P:Prop}(h:P:=by show Box _ _ _ _;rw[hw8];simpa using B37.out.set 4 (.int .i64 z)):P:=h
theorem ZbX{P:Prop}(h:P:=by rw[List.length_take];omega):P:=h
theorem ZbY{P:Prop}(h:P:=by have nS:¬up listed 11:=nu hj hun;exact Zay):P:=h
theorem ZbZ{P:Prop}(h:P:=by obtain⟨_,_,h⟩:=and_ok h;obtain⟨_,_,h⟩:=and_ok h;injection h with h;subst h;simp):P:=h
theorem Zca{P:Prop}(h:P:=by have gg:f 8=_:=atg hf hr 5;have e1:f 10=_:=atg hf hr 7;exact ZR):P:=h
theorem Zcb{P:Prop}(h:P:=by rw[HOF.out.1];exact HIR.out):P:=h
theorem Zcc{P:Prop}(h:P:=by exact held_alloc (held_alloc Zr) (by simp)):P:=h
theorem Zcd{P:Prop}(h:P:=by rcases n with _|⟨x,_|⟨y,z⟩⟩;(·simp at hn);(·exact⟨_,rfl⟩);·simp at hn):P:=h
theorem Zce{P:Prop}(h:P:=by 
 have HMN:Hid ((d.kind==10||d.kind==11)=true):=by show _=_;rw[hkk];rfl
 clear hkk;have HIT3:=HIT2.out;rw[HMN.out,if_neg (by cases seen.contains d.kind<;>decide)]at HIT3;replace HIT2:=Zh HIT3;clear HIT3
 cases sb with
 |true=>exact Zc
 |false=>exact Zc):P:=h
theorem Zcf{P:Prop}(h:P:=by go_upto_region 1 with fail;rw[←hW];clear hW;go_wp2_with fail;refine HF.out.mono ?_;rintro e w1⟨rfl,hb1⟩;have HB1:=Zh (HB.out.trans (hb1.mono HB.out.size));clear hb1 k0 k1 k2 k3 k4 k5 k6 k7;go_wp2_with fail;go_ret;exact⟨rfl,HB1.out⟩):P:=h
theorem Zcg{P:Prop}(h:P:=by clear he;go_wp2_with fail;go_quiet(fail);go_wp2_with fail;go_ret;rw[HE.out];exact⟨rfl,hbl.out.trans (below_drewN _ _ _)⟩):P:=h
theorem Zch{P:Prop}(h:P:=by obtain⟨h1,h2⟩:=h;refine⟨?_,fun c0 h=>h2 c0 ?_⟩;(·rw[h1];unfold goS;simp only[e]);·rw[←h];unfold outS;simp only[e]):P:=h
theorem Zci{P:Prop}(h:P:=by have HBW:Hid (Below w.heap.size w wr):=HFX.out.toBelow (Nat.le_refl _) (fun b e=>by have:=HB.out;omega);go_wp2_with fail;go_ret2;rw[HE.out];refine⟨_,rfl,?_,HBW.out⟩;rw[HX.out,HE.out];exact⟨(fun _ h=>by cases h),OwnC.nil _ _ _ _⟩):P:=h
theorem Zcj{P:Prop}(h:P:=by go_upto_region 1 with fail;rw[←hW];clear hW;go_wp2_with fail;refine HC.out.mono ?_;rintro e w1⟨rfl,hb1⟩;have HB1:=Zh (HB.out.trans (hb1.mono HB.out.size));clear hb1;go_wp2_with fail;go_ret;exact⟨ret_bool HE.out,HB1.out⟩):P:=h
theorem Zck{P:Prop}(h:P:=by go_ret;exact⟨ret_int (by rw[hz.out]),rfl⟩):P:=h
theorem Zcl{P:Prop}(h:P:=by refine⟨?_,?_,?_⟩;(·rw[g1];exact Zft);(·rw[g1];unfold outS;simp only[e2]);·rw[g1];unfold measS;simp):P:=h
theorem Zcm{P:Prop}(h:P:=by have kl:=Zq kc;refine GJ.op hj hdo hr rfl _ hdi (fun K hK=>?_);clear hj hf hdo hdi;rw[e1]at hK⊢;clear e1;exact ZI):P:=h
theorem Zcn{P:Prop}(h:P:=by rw[if_neg (by omega),if_neg (by omega),if_neg (by omega),if_neg (by omega),if_neg (by omega),if_neg (by omega),if_neg (by omega),if_neg (by omega),if_neg (by omega),if_neg (by omega),if_neg (by omega),if_neg (by omega)]):P:=h
theorem Zco{P:Prop}(h:P:=by have e1:f 19=_:=atg hf hr 16;exact ZQ):P:=h
theorem Zcp{P:Prop}(h:P:=by rw[hw4];simpa using hbp.set 1 (.int .i64 ((kk:Int)+1))):P:=h
theorem Zcq{P:Prop}(h:P:=by rw[her]at he;subst he;clear hb1 hb2 her;go_wp2_with fail;go_ret;exact HRT.out):P:=h
theorem Zcr{P:Prop}(h:P:=by rintro e w'⟨rfl,rfl⟩;rw[HX.out];go_wp2_with fail;exact bodyPost_ret (v:=.tuple #[aggT (badT 3).1,.int .i64 3]) (by simp[results,Tryz.results109,go_sem,aggT,badT];rfl) rfl ⟨rfl,Zr.alloc (Nat.le_refl _) _⟩):P:=h
theorem Zcs{P:Prop}(h:P:=by have:=hcq j hlt 0 (by omega);rw[hp]at this;exact ZaQ):P:=h
theorem Zct{P:Prop}(h:P:=by have:=hcq j hlt 1 (by omega);rw[hp]at this;exact ZaQ):P:=h
theorem Zcu{P:Prop}(h:P:=by have e1:f 4=_:=atg hf hr 1;exact ZQ):P:=h
theorem Zcv{P:Prop}(h:P:=by have e1:f 6=_:=atg hf hr 3;exact ZQ):P:=h
theorem Zcw{P:Prop}(h:P:=by have e1:f 7=_:=atg hf hr 4;exact ZQ):P:=h
theorem Zcx{P:Prop}(h:P:=by have:=hb.1;have:=hb.2;omega):P:=h
theorem Zcy{P:Prop}(h:P:=by refine GJ.op hj hdo hr rfl _ hdi (fun K hK=>?_);clear hj hf hdo hdi;go_simp;exact hK _ _ (fun k v _ _ h=>KS.st _ _ _ _ (Fx.of_below (held_alloc Zr)) h) (fun t ht=>trivial) (hcm.alloc1 (by decide) nS rfl rfl)):P:=h
theorem Zcz{P:Prop}(h:P:=by refine GJ.op hj hdo hr rfl _ hdi (fun K hK=>?_);clear hj hf hdo hdi;go_simp;exact hK _ _ (fun k v _ _ h=>KS.st _ _ _ _ (Fx.of_below (held_alloc Zr)) h) (fun t ht=>trivial) (hcm.alloc2 (by decide) nS rfl rfl)):P:=h
theorem ZcA{P:Prop}(h:P:=by have gg:f 20=_:=atg hf hr 17;have e1:f 21=_:=atg hf hr 18;obtain⟨kc,klt⟩:=kcl hcm c3;exact ZS):P:=h
theorem ZcB{P:Prop}(h:P:=by have gg:f 20=_:=atg hf hr 17;have e1:f 23=_:=atg hf hr 20;obtain⟨kc,klt⟩:=kcl hcm c0;exact ZS):P:=h
theorem ZcC{P:Prop}(h:P:=by have gg:f 20=_:=atg hf hr 17;have e1:f 25=_:=atg hf hr 22;obtain⟨kc,klt⟩:=kcl hcm c3;exact ZS):P:=h
theorem ZcD{P:Prop}(h:P:=by have gg:f 20=_:=atg hf hr 17;have e1:f 27=_:=atg hf hr 24;obtain⟨kc,klt⟩:=kcl hcm c1;exact ZS):P:=h
theorem ZcE{P:Prop}(h:P:=by intro u hu;simp only[List.mem_cons,List.not_mem_nil,or_false]at hu;rcases hu with rfl|rfl<;>rfl):P:=h
theorem ZcF{P:Prop}(h:P:=by simp only[Nat.min_def];split<;>omega):P:=h
theorem ZcG{P:Prop}(h:P:=by have hbw:Below wr.heap.size wr w9:=hcm.below nS;obtain⟨kc0,kl⟩:=Zk hbw (HC.out.cell 4) Zi4;exact Zp):P:=h
theorem ZcH{P:Prop}(h:P:=by obtain⟨kc0,kl⟩:=Zk hcm (HC.out.cell 4) Zi4;exact Za):P:=h
theorem ZcI{P:Prop}(h:P:=by obtain⟨kc0,kl⟩:=Zk hcm (HC.out.cell 3) Zi3;exact Za):P:=h
theorem ZcJ{P:Prop}(h:P:=by show _=_;unfold itemCk;simp[hk6]):P:=h
theorem ZcK{P:Prop}(h:P:=by rw[hw4];exact RB.step ⟨vv,hbp,hsp,hkp⟩ hkl):P:=h
theorem ZcL{P:Prop}(h:P:=by have h1:=flat_take (rows:=rows.drop i) (fun r hr=>h.1 r (List.mem_of_mem_drop hr)) (rows.drop i).length (Nat.le_refl _);rw[List.take_length,List.length_drop]at h1;exact h1):P:=h
theorem ZcM{P:Prop}(h:P:=by have gg:f 85=_:=atg hf hr 4;refine GJ.no hj hdo hr rfl _ hdi rfl (j:=4) rfl rfl (c:=false) gg rfl (fun k v _ _ h=>h) (fun t ht=>rfl) ?_;exact(hcm.trans (Zr.mono hcm.size))):P:=h
theorem ZcN{P:Prop}(h:P:=by have h1:=flat_take (rows:=rows.drop i) (fun r hr=>hk r (List.mem_of_mem_drop hr)) (rows.drop i).length (Nat.le_refl _);rw[List.take_length,List.length_drop]at h1;exact h1):P:=h
theorem ZcO{P:Prop}(h:P:=by refine GJ.yes hj hdo hr rfl _ hdi rfl (j:=4) rfl rfl (c:=true) gg rfl (fun K hK=>?_);exact Zak):P:=h
theorem ZcP{P:Prop}(h:P:=by exact⟨j+1,_,nl9,by omega,rfl,rfl,by go_num,hbr9,hm9,HN9.out.symm,HO9.out,HF9.out⟩):P:=h
theorem ZcQ{P:Prop}(h:P:=by refine GJ.yes hj hdo hr rfl _ hdi rfl (j:=12) rfl rfl (c:=true) gg rfl (fun K hK=>?_);exact ZE):P:=h
theorem ZcR{P:Prop}(h:P:=by have nS:¬up listed 15:=nu hj hun;exact Zay):P:=h
theorem ZcS{P:Prop}(h:P:=by go_round;(case rel=>exact⟨k+1,by omega,by go_num,hz.out⟩);case measure=>exact Zfn):P:=h
theorem ZcT{P:Prop}(h:P:=by cases h):P:=h
theorem ZcU{P:Prop}(h:P:=by rw[bne_eq_false_iff_eq];omega):P:=h
theorem ZcV{P:Prop}(h:P:=by rw[show(i+1)*k+(j-(i+1)*k)=j by omega]at this;rw[this,List.getElem?_append_right (by omega),show j-i*k-row.length=j-(i+1)*k by omega,List.getElem?_eq_getElem (by omega)]):P:=h
theorem ZcW{P:Prop}(h:P:=by rintro e w1⟨rfl,hb1⟩;have HB1:=Zh (HBL.out.trans (hb1.mono HBL.out.size));clear hb1;go_wp2_with fail;go_ret2;exact⟨i,hjm,by rw[HE.out];rfl,HP.out.2,HB1.out⟩):P:=h
theorem ZcX{P:Prop}(h:P:=by rw[HasL]at h;exact h.elim;all_goals simp):P:=h
theorem ZcY{P:Prop}(h:P:=by have hjl:=(List.getElem?_eq_some_iff.1 hj).1;rw[add_off,Nat.zero_add];refine(hcs j (by omega)).trans ?_;rw[hfl2,List.getElem?_append_left hjl];exact hj):P:=h
theorem ZcZ{P:Prop}(h:P:=by simp only[Tok.at_];omega):P:=h
theorem Zda{P:Prop}(h:P:=by exact bodyPost_ret (v:=.tuple #[aggT (badT 4).1,.int .i64 4]) (by simp[results,Tryz.results109,go_sem,aggT,badT];rfl) rfl ⟨rfl,Zr.alloc (Nat.le_refl _) _⟩):P:=h
theorem Zdb{P:Prop}(h:P:=by (have e:decide (6≤(c.kind:Int))=decide (6≤c.kind):=by rw[decide_eq_decide];omega);rw[e];revert hit;cases item<;>cases decide (6≤c.kind)<;>simp):P:=h
theorem Zdc{P:Prop}(h:P:=by rw[add_off,Nat.zero_add,hbs.cell j];simpa using hj):P:=h
theorem Zdd{P:Prop}(h:P:=by refine⟨fun t r e=>(by cases e),fun v t r e=>(by cases e),fun v r e=>?_⟩;injection e with e;injection e with e1 e2;exact⟨[],by rw[←e2];rfl⟩):P:=h
theorem Zde{P:Prop}(h:P:=by go_wp2_with fail;go_ret;rw[HE.out];exact⟨HBW.out,rfl⟩):P:=h
theorem Zdf{P:Prop}(h:P:=by rw[hw6];exact RB5.step hkl):P:=h
theorem Zdg{P:Prop}(h:P:=by exact h8.fx hf6 (fun e=>by omega)):P:=h
theorem Zdh{P:Prop}(h:P:=by have:=hS b e;omega):P:=h
theorem Zdi{P:Prop}(h:P:=by have:=HL.out;omega):P:=h
theorem Zdj{P:Prop}(h:P:=by rcases hd:ts.drop k0 with _|⟨t,r⟩;(·exact hen);·obtain⟨v,_,hs,_⟩:=hrb;exact(hs.1 t (List.mem_of_mem_drop (by rw[hd];simp))).2.2.1):P:=h
theorem Zdk{P:Prop}(h:P:=by simp;omega):P:=h
theorem Zdl{P:Prop}(h:P:=by simp[Act.eval,Act.put]):P:=h
theorem Zdm{P:Prop}(h:P:=by rw[IntKind.wrap_i64];omega):P:=h
theorem Zdn{P:Prop}(h:P:=by rw[add_off,hWc,World.cell?_setCells_out _ _ _ _ _ (fun h _=>absurd h (Nat.ne_of_lt hgl))];exact hOg _ u (hcB j u (by rw[hB];exact hj))):P:=h
theorem Zdo{P:Prop}(h:P:=by have e1:f 28=_:=atg hf hr 0;obtain⟨kc,klt⟩:=kcl hcm hk3;exact ZQ):P:=h
theorem Zdp{P:Prop}(h:P:=by have gg:f 42=_:=atg hf hr 14;refine GJ.yes hj hdo hr rfl _ hdi rfl (j:=14) rfl rfl (c:=false) gg rfl (fun K hK=>?_);clear gg;exact Zo):P:=h
theorem Zdq{P:Prop}(h:P:=by rintro e w14⟨rfl,hb⟩;have HBY:=Zh (HB13.out.trans (hb.mono HB13.out.size));clear hb;go_wp2_with fail;go_ret;rw[HR.out];exact⟨rfl,HBY.out⟩):P:=h
theorem Zdr{P:Prop}(h:P:=by have gg:f 34=_:=atg hf hr 31;refine GJ.yes hj hdo hr rfl _ hdi rfl (j:=31) rfl rfl (c:=false) gg rfl (fun K hK=>?_);clear gg;exact Zo):P:=h
theorem Zds{P:Prop}(h:P:=by show _=_;rw[←HR.out];exact decide_eq_false (fun e=>he (by rw[e]))):P:=h
theorem Zdt{P:Prop}(h:P:=by have gg:f 20=_:=atg hf hr 17;have e1:f 22=_:=atg hf hr 19;exact ZS):P:=h
theorem Zdu{P:Prop}(h:P:=by have gg:f 20=_:=atg hf hr 17;have e1:f 26=_:=atg hf hr 23;exact ZS):P:=h
theorem Zdv{P:Prop}(h:P:=by rcases Nat.lt_or_ge i listed.size with h1|h1;(·exact h1);·rw[Array.getD_eq_getD_getElem?,Array.getElem?_eq_none h1]at h;cases h):P:=h
theorem Zdw{P:Prop}(h:P:=by rw[List.drop_eq_nil_of_le h]at hrr;cases hrr):P:=h
theorem Zdx{P:Prop}(h:P:=by simp only[List.cons_append,List.cons.injEq]at h1;obtain⟨rfl,rfl⟩:=h1;rw[List.cons_append,itemsP_at,if_neg hx];exact h2 r'):P:=h
theorem Zdy{P:Prop}(h:P:=by have kc0:w9.cell? ⟨b1,1,none⟩=some (.slice (some ⟨bs9,os9,none⟩) 2 ks):=keep_cell hcm.1 (HB1.out.cell 1);have kl:=Zq kc0;exact ZC):P:=h
theorem Zdz{P:Prop}(h:P:=by rintro b rfl⟨_,e⟩;exact hvp e):P:=h
theorem ZdA{P:Prop}(h:P:=by by_cases h0:a0=b0<;>by_cases h1:a1=b1<;>simp[go_sem,Op.eqFields,h0,h1]):P:=h
theorem ZdB{P:Prop}(h:P:=by rintro b rfl⟨_,e⟩;exact a1 e):P:=h
theorem ZdC{P:Prop}(h:P:=by rintro b rfl⟨_,e⟩;exact a2 e):P:=h
theorem ZdD{P:Prop}(h:P:=by rintro b rfl⟨_,e⟩;exact a3 e):P:=h
theorem ZdE{P:Prop}(h:P:=by rintro b rfl⟨_,e⟩;exact a4 e):P:=h
theorem ZdF{P:Prop}(h:P:=by rintro b rfl⟨_,e⟩;exact a5 e):P:=h
theorem ZdG{P:Prop}(h:P:=by exact(NoZ.need (by decide)).and fun _=>(NoZ.need (by decide)).and fun _=>(NoZ.need (by decide)).and fun _=>NoZ.ok _):P:=h
theorem ZdH{P:Prop}(h:P:=by rw[rowsOf_len hL.len];exact hlp):P:=h
theorem ZdI{P:Prop}(h:P:=by unfold isBlk;apply decide_eq_false;omega):P:=h
theorem ZdJ{P:Prop}(h:P:=by rw[add_off,hWc,hW1,World.cell?_setCells_out g _ _ _ _ (fun h _=>absurd h.symm hgv),Nat.zero_add];exact hrow j u hj):P:=h
theorem ZdK{P:Prop}(h:P:=by obtain⟨p,_,rfl⟩:=List.mem_map.1 hc;exact Nat.zero_le _):P:=h
theorem ZdL{P:Prop}(h:P:=by rw[List.length_drop];omega):P:=h
theorem ZdM{P:Prop}(h:P:=by simp only[Program.fieldsOf,Tryz.underlying102];by_cases h0:a0=b0<;>by_cases h1:a1=b1<;>simp[go_sem,Op.eqFields,h0,h1,ea0]):P:=h
theorem ZdN{P:Prop}(h:P:=by have:=hca i hlt 0 (by omega);exact ZaQ):P:=h
theorem ZdO{P:Prop}(h:P:=by rw[show i*k+(j-i*k)=j by omega]at this;rw[this,List.getElem?_append_left (by omega),List.getElem?_eq_getElem (by omega)]):P:=h
theorem ZdP{P:Prop}(h:P:=by have:=HNX.out.size;omega):P:=h
theorem ZdQ{P:Prop}(h:P:=by cases e):P:=h
theorem ZdR{P:Prop}(h:P:=by rw[bne_iff_ne];omega):P:=h
theorem ZdS{P:Prop}(h:P:=by have e1:f 20=_:=atg hf hr 17;exact ZQ):P:=h
theorem ZdT{P:Prop}(h:P:=by have e1:f 33=_:=atg hf hr 30;exact ZQ):P:=h
theorem ZdU{P:Prop}(h:P:=by simp[results,Tryz.results109,go_sem,aggT,e0,e1,e2,e3]):P:=h
theorem ZdV{P:Prop}(h:P:=by simp[results,Tryz.results13,go_sem,e0,e1,e2,e3,e4,e5]):P:=h
theorem ZdW{P:Prop}(h:P:=by obtain⟨kc0,kl⟩:=Zk hcm (HK.out.box.cell 13) Zi13;exact Za):P:=h
theorem ZdX{P:Prop}(h:P:=by have kc:w9.cell? ⟨c,1,none⟩=some v0:=hcm.1.cell (hbx.cell 1) (by omega);have kl:=Zq kc;exact Zbb):P:=h
theorem ZdY{P:Prop}(h:P:=by rw[e]at h1;have:=h1.symm.trans h2;injection this with this;injection this with _ ht;exact absurd ht (by decide)):P:=h
theorem ZdZ{P:Prop}(h:P:=by have nS:¬up listed 11:=nu hj hun;exact ZaH):P:=h
theorem Zea{P:Prop}(h:P:=by rw[hlsz];decide):P:=h
theorem Zeb{P:Prop}(h:P:=by rw[hWp,←hso];exact Box.new Wo _ _):P:=h
theorem Zec{P:Prop}(h:P:=by obtain⟨kc0,kl⟩:=Zk hcm (HS.out.box.cell 1) Zi1;exact Za):P:=h
theorem Zed{P:Prop}(h:P:=by have gg:f 20=_:=atg hf hr 17;have e1:f 29=_:=atg hf hr 26;obtain⟨kc,klt⟩:=kcl hcm k0;exact ZS):P:=h
theorem Zee{P:Prop}(h:P:=by have gg:f 20=_:=atg hf hr 17;have e1:f 30=_:=atg hf hr 27;obtain⟨kc,klt⟩:=kcl hcm k0;exact ZS):P:=h
theorem Zef{P:Prop}(h:P:=by have nS:¬up listed 9:=nu hj hun;exact ZaH):P:=h
theorem Zeg{P:Prop}(h:P:=by simp only[List.mem_cons,List.not_mem_nil,or_false]at hu;rcases hu with rfl|rfl|rfl|rfl|rfl|rfl|rfl|rfl<;>rfl):P:=h
theorem Zeh{P:Prop}(h:P:=by have e1:f 89=_:=atg hf hr 8;have e2:f 95=_:=atg hf hr 14;have e3:f 101=_:=atg hf hr 20;exact Zbo):P:=h
theorem Zei{P:Prop}(h:P:=by have e1:f 37=_:=atg hf hr 9;have e2:f 39=_:=atg hf hr 11;have e3:f 41=_:=atg hf hr 13;exact Zba):P:=h
theorem Zej{P:Prop}(h:P:=by have e1:f 36=_:=atg hf hr 8;have e2:f 43=_:=atg hf hr 15;have e3:f 54=_:=atg hf hr 26;exact Zbo):P:=h
theorem Zek{P:Prop}(h:P:=by simp at hk;omega):P:=h
theorem Zel{P:Prop}(h:P:=by rw[HC1.out];simp):P:=h
theorem Zem{P:Prop}(h:P:=by show _≤_;omega):P:=h
theorem Zen{P:Prop}(h:P:=by rw[←List.flatten_append,List.take_append_drop]):P:=h
theorem Zeo{P:Prop}(h:P:=by show _=_;rw[near_all _ _ _ hlt,HP.out,←named_one,HB1e.out,←Bool.and_assoc,←HBe.out];rfl):P:=h
theorem Zep{P:Prop}(h:P:=by rw[←hl9,List.length_append];show _+1≤_;omega):P:=h
theorem Zeq{P:Prop}(h:P:=by refine GJ.yes hj hdo hr rfl _ hdi rfl (j:=14) rfl rfl (c:=false) gg rfl (fun K hK=>?_);clear gg;exact Zb):P:=h
theorem Zer{P:Prop}(h:P:=by have hbw:Below wr.heap.size wr w9:=hcm.below nS;obtain⟨kc0,kl⟩:=Zk hbw (HC.out.cell 3) Zi3;exact Zp):P:=h
theorem Zes{P:Prop}(h:P:=by rw[←Nat.add_mul];congr 1;omega):P:=h
theorem Zet{P:Prop}(h:P:=by obtain⟨kc0,kl⟩:=Zk hcm (HC.out.cell 2) Zi2;exact Za):P:=h
theorem Zeu{P:Prop}(h:P:=by refine GJ.op hj hdo hr rfl _ hdi (fun K hK=>?_);clear hj hf hdo hdi;rw[e1]at hK⊢;clear e1;exact ZG):P:=h
theorem Zev{P:Prop}(h:P:=by rcases hor with h|h;(·exact hb.1.2 (e.trans h));·rw[h]at e;injection e with e;have:=hb.2;omega):P:=h
theorem Zew{P:Prop}(h:P:=by have e1:f 90=_:=atg hf hr 9;obtain⟨kc0,kl⟩:=Zk hcm (HS.out.box.cell 2) Zi2;exact Za):P:=h
theorem Zex{P:Prop}(h:P:=by have e1:f 32=_:=atg hf hr 4;obtain⟨kc0,kl⟩:=Zk hcm (HK.out.box.cell 9) Zi9;exact Za):P:=h
theorem Zey{P:Prop}(h:P:=by simp[Value.oneCell',clV]):P:=h
theorem Zez{P:Prop}(h:P:=by exact beq_self_eq_true _):P:=h
theorem ZeA{P:Prop}(h:P:=by rw[List.getD_eq_getElem?_getD,List.getElem?_eq_getElem hin];exact List.getElem_mem hin):P:=h
theorem ZeB{P:Prop}(h:P:=by show _=_;rw[←HIT.out,List.drop_length];rfl):P:=h
theorem ZeC{P:Prop}(h:P:=by obtain rfl:u=u':=List.append_cancel_right (h1.symm.trans h4);exact(hf N _ h3).symm.trans (h5 r')):P:=h
theorem ZeD{P:Prop}(h:P:=by rw[List.getD_eq_getElem?_getD,List.getElem?_eq_getElem hi];exact List.getElem_mem hi):P:=h
theorem ZeE{P:Prop}(h:P:=by have e1:f 46=_:=atg hf hr 18;obtain⟨kc0,kl⟩:=Zk hcm (HC.out.cell 5) Zi5;exact Za):P:=h
theorem ZeF{P:Prop}(h:P:=by rw[List.getD_eq_getElem?_getD,List.getElem?_eq_getElem hj];exact List.getElem_mem hj):P:=h
theorem ZeG{P:Prop}(h:P:=by have:=HV.out;rw[if_neg h0,if_neg h1,if_neg h2,if_neg h3,if_pos h4]at this;exact this):P:=h
theorem ZeH{P:Prop}(h:P:=by rw[hWp,World.size_alloc];omega):P:=h
theorem ZeI{P:Prop}(h:P:=by simpa using h):P:=h
theorem ZeJ{P:Prop}(h:P:=by exact rightW_num ha):P:=h
theorem ZeK{P:Prop}(h:P:=by refine GJ.yes hj hdo hr rfl _ hdi rfl (j:=21) rfl rfl (c:=true) gg rfl (fun K hK=>?_);exact ZE):P:=h
theorem ZeL{P:Prop}(h:P:=by have gg:f 20=_:=atg hf hr 17;have e1:f 31=_:=atg hf hr 28;have q4:=Q4.out;exact ZS):P:=h
theorem ZeM{P:Prop}(h:P:=by refine GJ.yes hj hdo hr rfl _ hdi rfl (j:=25) rfl rfl (c:=true) gg rfl (fun K hK=>?_);exact ZE):P:=h
theorem ZeN{P:Prop}(h:P:=by rw[HC5.out];simp):P:=h
theorem ZeO{P:Prop}(h:P:=by rw[e]at e';injection e' with e';injection e' with e';injection e' with e' _ _;rw[e'];exact hB):P:=h
theorem ZeP{P:Prop}(h:P:=by simpa using h1):P:=h
theorem ZeQ{P:Prop}(h:P:=by simp[badT]):P:=h
theorem ZeR{P:Prop}(h:P:=by rw[hROW,Array.size_append,Array.size_append,List.size_toArray,hA,hz1,hz2];omega):P:=h
theorem ZeS{P:Prop}(h:P:=by rw[hp]at e;cases e):P:=h
theorem ZeT{P:Prop}(h:P:=by have:=h.base;omega):P:=h
theorem ZeU{P:Prop}(h:P:=by rw[near_map _ _ _ hlt,HP.out,HL6.out];show _++[_]=_;rw[List.append_assoc];rfl):P:=h
theorem ZeV{P:Prop}(h:P:=by rcases e with e|e|e;exact .inl e;exact .inr (by omega);exact .inr (by omega)):P:=h
theorem ZeW{P:Prop}(h:P:=by simp[World.setCell]):P:=h
theorem ZeX{P:Prop}(h:P:=by rw[ih n m r (by simp at h hl;omega) (by simp at hn hl;omega) (by simp at hm hl;omega)]):P:=h
theorem ZeY{P:Prop}(h:P:=by rw[show decide (1≤k∧k≤12)=false from decide_eq_false (by omega)];rfl):P:=h
theorem ZeZ{P:Prop}(h:P:=by have:=HV.out;rw[if_neg h0,if_neg h1,if_neg h2,if_pos h3]at this;exact this):P:=h
theorem Zfa{P:Prop}(h:P:=by rw[e0];decide):P:=h
theorem Zfb{P:Prop}(h:P:=by rw[List.length_map];omega):P:=h
theorem Zfc{P:Prop}(h:P:=by rw[World.size_alloc];omega):P:=h
theorem Zfd{P:Prop}(h:P:=by show _=_;rw[←HE.out];rfl):P:=h
theorem Zfe{P:Prop}(h:P:=by go_ret;first|exact hres.out|(have hr9:=hres.out;simp only[Nat.mul_one]at hr9;exact hr9)):P:=h
theorem Zff{P:Prop}(h:P:=by have e1:f 3=_:=atg hf hr 0;exact Zbz):P:=h
theorem Zfg{P:Prop}(h:P:=by have e1:f 5=_:=atg hf hr 2;exact Zbz):P:=h
theorem Zfh{P:Prop}(h:P:=by show andP (wantP sSemi (t4::r)) _=_;rw[want_word (by decide) q4];rfl):P:=h
theorem Zfi{P:Prop}(h:P:=by go_wp2_with fail;go_ret;exact⟨rfl,HB1.out⟩):P:=h
theorem Zfj{P:Prop}(h:P:=by (obtain rfl:k=l.length:=by omega);(have hz:Hid (N=l.length):=by have:=hr.out;rw[runN_end]at this;exact this.symm);go_wp2_with fail;exact Zck):P:=h
theorem Zfk{P:Prop}(h:P:=by have e1:f 54=_:=atg hf hr 3;obtain⟨kc,klt⟩:=kcl hcm hk2;exact ZQ):P:=h
theorem Zfl{P:Prop}(h:P:=by have gg:f 58=_:=atg hf hr 7;refine GJ.yes hj hdo hr rfl _ hdi rfl (j:=7) rfl rfl (c:=false) gg rfl (fun K hK=>?_);clear gg;exact Zo):P:=h
theorem Zfm{P:Prop}(h:P:=by have e1:f 52=_:=atg hf hr 1;have e2:f 56=_:=atg hf hr 5;exact Zah):P:=h
theorem Zfn{P:Prop}(h:P:=by simp[intOf];omega):P:=h
theorem Zfo{P:Prop}(h:P:=by have gg:f 34=_:=atg hf hr 6;have e1:f 35=_:=atg hf hr 7;obtain⟨kc,klt⟩:=kcl hcm hk4;exact ZbF):P:=h
theorem Zfp{P:Prop}(h:P:=by refine GJ.yes hj hdo hr rfl _ hdi rfl (j:=11) rfl rfl (c:=true) gg rfl (fun K hK=>?_);clear gg;exact Zb):P:=h
theorem Zfq{P:Prop}(h:P:=by rw[←HE.out]at HRT;obtain⟨er,her⟩:∃er,erV (exE (fromTo c 0 1000000))=er:=⟨_,rfl⟩;exact Zcq):P:=h
theorem Zfr{P:Prop}(h:P:=by go_wp2_with fail;go_ret;exact⟨rfl,held_alloc Zr⟩):P:=h
theorem Zfs{P:Prop}(h:P:=by clear h0 h1 h2 h3 h4 h5 h6 h7 h8 h9 h10 h11 h12 h13 h14 h15 h16 h17 h18 h19 h20 h21;exact ZD):P:=h
theorem Zft{P:Prop}(h:P:=by unfold goS;simp only[e2]):P:=h
theorem Zfu{P:Prop}(h:P:=by have kc:w9.cell? ⟨c,1,none⟩=some v0:=hcm.1.cell (hbx.cell 1) (by omega);exact Zcm):P:=h
theorem Zfv{P:Prop}(h:P:=by rw[←hB,hBl,hN];exact ZcF):P:=h
theorem Zfw{P:Prop}(h:P:=by have e1:f 41=_:=atg hf hr 13;exact ZQ):P:=h
theorem Zfx{P:Prop}(h:P:=by have e1:f 49=_:=atg hf hr 21;exact ZQ):P:=h
theorem Zfy{P:Prop}(h:P:=by have e1:f 67=_:=atg hf hr 16;exact ZQ):P:=h
theorem Zfz{P:Prop}(h:P:=by have e1:f 34=_:=atg hf hr 31;exact ZQ):P:=h
theorem ZfA{P:Prop}(h:P:=by show Box _ _ _ _;rw[hw7];simpa using B36.out.set 2 (.int .u8 (dm:Int))):P:=h
theorem ZfB{P:Prop}(h:P:=by simpa using hi):P:=h
theorem ZfC{P:Prop}(h:P:=by rw[hWf];exact b1.frozen _):P:=h
theorem ZfD{P:Prop}(h:P:=by have e1:f 32=_:=atg hf hr 4;exact ZQ):P:=h
theorem ZfE{P:Prop}(h:P:=by have e1:f 33=_:=atg hf hr 5;exact ZQ):P:=h
theorem ZfF{P:Prop}(h:P:=by have e1:f 57=_:=atg hf hr 6;exact ZQ):P:=h
theorem ZfG{P:Prop}(h:P:=by 
 cases n with
 |nil=>exact absurd rfl hn
 |cons x y=>exact⟨_,_,rfl⟩):P:=h
theorem ZfH{P:Prop}(h:P:=by rintro b rfl⟨_,e⟩;exact ho.notBox (h.box.fx hf hp) (by decide) e):P:=h
theorem ZfI{P:Prop}(h:P:=by rintro b rfl⟨_,e⟩;exact hn.notBox (h.box.fx hf hp) (by decide) e):P:=h
theorem ZfJ{P:Prop}(h:P:=by rw[HC7.out];simp):P:=h
theorem ZfK{P:Prop}(h:P:=by exact rightW_name (hnn _ (by simp))):P:=h
theorem ZfL{P:Prop}(h:P:=by rw[List.getD_eq_getElem?_getD,List.getElem?_eq_getElem h1];exact h2):P:=h
theorem ZfM{P:Prop}(h:P:=by obtain⟨us,h1,h2⟩:=h;have:=h1.shape;rwa[srvsR_len h2.len]at this):P:=h
theorem ZfN{P:Prop}(h:P:=by unfold maxLen;omega):P:=h
theorem ZfO{P:Prop}(h:P:=by rw[hWc];exact b1.isSome (by rw[←hB,hBl,hN]at hj;rw[y1,hRs];omega)):P:=h
theorem ZfP{P:Prop}(h:P:=by exact Box.new w _ _):P:=h
theorem ZfQ{P:Prop}(h:P:=by rw[hW0,←hsa];exact Box.new Wa _ _):P:=h
theorem ZfR{P:Prop}(h:P:=by have e1:f 20=_:=atg hf hr 17;have e2:f 32=_:=atg hf hr 29;exact Zah):P:=h
theorem ZfS{P:Prop}(h:P:=by simp[results,Tryz.results84,go_sem]):P:=h
theorem ZfT{P:Prop}(h:P:=by have gg:f 34=_:=atg hf hr 6;have e1:f 39=_:=atg hf hr 11;exact ZbF):P:=h
theorem ZfU{P:Prop}(h:P:=by have e1:f 34=_:=atg hf hr 6;have e2:f 40=_:=atg hf hr 12;exact Zah):P:=h
theorem ZfV{P:Prop}(h:P:=by have e1:f 91=_:=atg hf hr 10;have e2:f 93=_:=atg hf hr 12;exact ZA):P:=h
theorem ZfW{P:Prop}(h:P:=by have e1:f 45=_:=atg hf hr 17;have e2:f 47=_:=atg hf hr 19;exact ZA):P:=h
theorem ZfX{P:Prop}(h:P:=by have gg:f 58=_:=atg hf hr 7;have e1:f 61=_:=atg hf hr 10;exact ZaD):P:=h
theorem ZfY{P:Prop}(h:P:=by have e1:f 58=_:=atg hf hr 7;have e2:f 66=_:=atg hf hr 15;exact Zah):P:=h
theorem ZfZ{P:Prop}(h:P:=by unfold goS;simp only[hi]):P:=h
theorem Zga{P:Prop}(h:P:=by rw[hWo,World.size_alloc]):P:=h
theorem Zgb{P:Prop}(h:P:=by rcases hk' with rfl|rfl|rfl|rfl<;>decide):P:=h
theorem Zgc{P:Prop}(h:P:=by go_enter Tryz.func30,Tryz.ntmps30;exact ZaN):P:=h
theorem Zgd{P:Prop}(h:P:=by have kc:=keep_cell hcm g1;exact ZU):P:=h
theorem Zge{P:Prop}(h:P:=by have gg:f 58=_:=atg hf hr 7;have e1:f 60=_:=atg hf hr 9;exact ZaD):P:=h
theorem Zgf{P:Prop}(h:P:=by rcases h with h|h<;>have:=h.1<;>omega):P:=h
theorem Zgg{P:Prop}(h:P:=by show Box _ _ _ _;rw[hw9];simpa using B38.out.set 3 (.int .i64 zi)):P:=h
theorem Zgh{P:Prop}(h:P:=by have:=HV.out;rw[if_neg h0,if_neg h1,if_pos h2]at this;exact this):P:=h
end Go.Proofs.YtikepaanbnfpcaaGreatDoor
