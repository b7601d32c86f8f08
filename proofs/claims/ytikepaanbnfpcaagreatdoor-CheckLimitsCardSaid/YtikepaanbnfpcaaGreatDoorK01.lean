/- Parts of the proof: Any, Gj, Lex0, LexP, Lex1. -/
import Derived.OrdersIn
import Derived.Laws.World
import Derived.Below
import Derived.Test.YtikepaanbnfpcaaGreatDoorProg
import Derived.Test.YtikepaanbnfpcaaGreatDoorMac
import Derived.Lib.Strings
import Derived.Lib.Bytealg
import Derived.Lib.Atoi
import Derived.Lib.Join
import Derived.Lib.Hide
set_option linter.unusedVariables false
set_option linter.unusedSimpArgs false
set_option maxRecDepth 100000
set_option maxHeartbeats 16000000
namespace Go.Proofs.YtikepaanbnfpcaaGreatDoor
open Go.RowKit
def toCome(listed:Array Bool):Nat:=listed.toList.count false
theorem ready_mem{md:Region.Mode}{ops:Array Oper}{listed:Array Bool}{i:Nat}(h:i∈Region.ready md ops listed):i<ops.size∧listed.getD i true=false∧∃o,ops[i]?=some o∧∀e∈o.after,Region.binds md e=true→listed.getD e.on false=true:=by unfold Region.ready at h;rw[List.mem_filter,List.mem_range]at h;obtain⟨h1,h2⟩:=h;rw[Bool.and_eq_true]at h2;obtain⟨h2,h3⟩:=h2;have ho:ops[i]?=some ops[i]:=Array.getElem?_eq_getElem h1;refine⟨h1,by simpa using h2,ops[i],ho,fun e he hb=>?_⟩;rw[ho]at h3;simp only[Option.map_some,Option.getD_some]at h3;have:=Array.all_eq_true'.1 h3 e he;rw[hb]at this;simpa using this
theorem toCome_pos{listed:Array Bool}{i:Nat}(h:listed.getD i true=false):toCome (listed.setIfInBounds i true)+1=toCome listed:=by(have hi:i<listed.size:=by rcases Nat.lt_or_ge i listed.size with h1|h1;(·exact h1);·rw[Array.getD_eq_getD_getElem?,Array.getElem?_eq_none h1]at h;cases h);(have hg:listed.toList[i]'(by simpa using hi)=false:=by rw[Array.getD_eq_getD_getElem?,Array.getElem?_eq_getElem hi]at h;simpa using h);unfold toCome;rw[Array.toList_setIfInBounds,List.count_set (by simpa using hi),hg];have hpos:0<listed.toList.count false:=List.count_pos_iff.2 (hg▸List.getElem_mem _);change listed.toList.count false-1+0+1=_;omega
section
variable{P:Program}{ops:Array Oper}{Q:Exit→Act→World→Prop}{md:Region.Mode}{J:Array Bool→Act→World→Prop}
theorem wpAny_inv(hstep:∀listed a w i,i∈Region.ready md ops listed→J listed a w→wpOp P ops Q i (J (listed.setIfInBounds i true)) a w)(hend:∀listed a w,Region.ready md ops listed=[]→J listed a w→Q .normal a w):∀(fuel:Nat)(listed:Array Bool)(a:Act)(w:World),toCome listed≤fuel→J listed a w→wpAny P md ops Q fuel listed a w|0,listed,a,w,hc,hj=>by(have hr:Region.ready md ops listed=[]:=by rcases hh:Region.ready md ops listed with _|⟨i,l⟩;(·rfl);·(have hi:i∈Region.ready md ops listed:=by rw[hh];exact List.mem_cons_self ..);have:=toCome_pos (ready_mem hi).2.1;omega);exact⟨hr,hend _ _ _ hr hj⟩|fuel+1,listed,a,w,hc,hj=>by refine⟨fun hr=>hend _ _ _ hr hj,fun i hi=>wpOp_mono (fun a w h=>?_) (hstep listed a w i hi hj)⟩;exact wpAny_inv hstep hend fuel _ a w (by have:=toCome_pos (ready_mem hi).2.1;omega) h
theorem toCome_start(n:Nat):toCome (Array.replicate n false)≤n:=by unfold toCome;simp
theorem wp_region_inv{id:Nat}{a:Act}{w:World}(hm:P.follows .mixedOrders=true)(hstep:∀listed a w i,i∈Region.ready .any ops listed→J listed a w→wpOp P ops Q i (J (listed.setIfInBounds i true)) a w)(hend:∀listed a w,Region.ready .any ops listed=[]→J listed a w→Q .normal a w)(h0:J (Array.replicate ops.size false) a w.drew):(Code.region id ops true).wp P Q a w:=wp_region_any hm (wpAny_inv hstep hend ops.size _ _ _ (toCome_start _) h0)
end
def DstOnce(ops:Array Oper):Prop:=∀(k k':Nat)(o o':Oper)(t:Nat),ops[k]?=some o→ops[k']?=some o'→o.dst=some t→o'.dst=some t→k=k'
theorem array_of_old{α:Type}(z:α):∀(D:List Nat)(x y:Array α),x.size=y.size→(∀t,t∉D→x.getD t z=y.getD t z)→x=D.foldl (fun y d=>y.setIfInBounds d (x.getD d z)) y|[],x,y,hs,h=>by apply Array.ext hs;intro i h1 h2;have:=h i (by simp);rw[Array.getD_eq_getD_getElem?,Array.getD_eq_getD_getElem?,Array.getElem?_eq_getElem h1,Array.getElem?_eq_getElem h2]at this;simpa using this|d::D,x,y,hs,h=>by rw[List.foldl_cons];refine array_of_old z D x _ (by simp[hs]) (fun t ht=>?_);by_cases e:d=t;(·subst e;rcases Nat.lt_or_ge d y.size with hd|hd;(·rw[Array.getD_eq_getD_getElem? (xs:=y.setIfInBounds _ _),Array.getElem?_setIfInBounds_self_of_lt hd];rfl);·rw[Array.getD_eq_getD_getElem?,Array.getD_eq_getD_getElem?,Array.getElem?_eq_none (by omega),Array.getElem?_eq_none (by simp;omega)]);·rw[Array.getD_eq_getD_getElem? (xs:=y.setIfInBounds _ _),Array.getElem?_setIfInBounds_ne e,←Array.getD_eq_getD_getElem?];exact h t (by simp;exact⟨fun e'=>e e'.symm,ht⟩)
def up(listed:Array Bool)(k:Nat):Prop:=listed.getD k false=true
theorem up_set{listed:Array Bool}{i k:Nat}(h:up (listed.setIfInBounds i true) k)(hne:k≠i):up listed k:=by unfold up at h⊢;rw[Array.getD_eq_getD_getElem?,Array.getElem?_setIfInBounds_ne (fun e=>hne e.symm),←Array.getD_eq_getD_getElem?]at h;exact h
theorem up_keep{listed:Array Bool}{i k:Nat}(h:up listed k):up (listed.setIfInBounds i true) k:=by unfold up at h⊢;by_cases e:i=k;(·subst e;(have hi:i<listed.size:=by rcases Nat.lt_or_ge i listed.size with h1|h1;(·exact h1);·rw[Array.getD_eq_getD_getElem?,Array.getElem?_eq_none h1]at h;cases h);rw[Array.getD_eq_getD_getElem?,Array.getElem?_setIfInBounds_self_of_lt hi];rfl);·rw[Array.getD_eq_getD_getElem?,Array.getElem?_setIfInBounds_ne e,←Array.getD_eq_getD_getElem?];exact h
theorem up_self{listed:Array Bool}{i:Nat}(h:i<listed.size):up (listed.setIfInBounds i true) i:=by unfold up;rw[Array.getD_eq_getD_getElem?,Array.getElem?_setIfInBounds_self_of_lt h];rfl
theorem not_up{listed:Array Bool}{i:Nat}(h:listed.getD i true=false):¬up listed i:=by unfold up;rw[Array.getD_eq_getD_getElem?]at h⊢;rcases e:listed[i]?with _|b;(·rw[e]at h;cases h);·rw[e]at h;simp only[Option.getD_some]at h⊢;rw[h];simp
theorem up_none(n k:Nat):¬up (Array.replicate n false) k:=by unfold up;rw[Array.getD_eq_getD_getElem?,Array.getElem?_replicate];split<;>simp
def waitsOn(ops:Array Oper)(i j:Nat):Bool:=match ops[i]?with|some o=>o.after.any fun e=>e.on==j&&Region.binds .any e|none=>false
theorem up_dep{ops:Array Oper}{listed:Array Bool}{i j:Nat}(h:i∈Region.ready .any ops listed)(hw:waitsOn ops i j=true):up listed j:=by obtain⟨_,_,o,ho,haft⟩:=ready_mem h;unfold waitsOn at hw;rw[ho]at hw;obtain⟨e,he,hb⟩:=Array.any_eq_true'.1 hw;rw[Bool.and_eq_true]at hb;have:=haft e he hb.2;rw[show e.on=j from by simpa using hb.1]at this;exact this
theorem atg{ops:Array Oper}{S:Array Bool→Nat→Value→World→Prop}{listed:Array Bool}{i:Nat}{f:Nat→Value}{w:World}(hf:∀(k:Nat)(o:Oper)(t:Nat),ops[k]?=some o→o.dst=some t→up listed k→S listed k (f t) w)(hr:i∈Region.ready .any ops listed)(k:Nat){o:Oper}{t:Nat}(h1:ops[k]?=some o)(h2:o.dst=some t)(h3:waitsOn ops i k=true):S listed k (f t) w:=hf k o t h1 h2 (up_dep hr h3)
def wayB(ops:Array Oper)(i k:Nat):Bool:=((List.range' (i+1) (k-i)).foldl (fun m j=>if m.any (fun x=>waitsOn ops j x)then j::m else m) [i]).contains k
theorem way_fold{ops:Array Oper}{listed:Array Bool}(hc:∀i j,up listed i→waitsOn ops i j=true→up listed j){i:Nat}:∀(l m:List Nat),(∀x∈m,up listed x→up listed i)→∀x∈l.foldl (fun m j=>if m.any (fun x=>waitsOn ops j x)then j::m else m) m,up listed x→up listed i|[],_,h=>h|j::l,m,h=>by refine way_fold hc l _ ?_;dsimp only;split;(next e=>intro x hx hu;rcases List.mem_cons.1 hx with rfl|hx;(·obtain⟨y,hy,hw⟩:=List.any_eq_true.1 e;exact h y hy (hc _ y hu hw));·exact h x hx hu);next=>exact h
def backward(ops:Array Oper):Bool:=(List.range ops.size).all fun i=>match ops[i]?with|some o=>o.after.all fun e=>!Region.binds .any e||decide (e.on<i)|none=>true
theorem up_next{ops:Array Oper}{listed:Array Bool}(hb:backward ops=true)(hs:listed.size=ops.size)(hr:Region.ready .any ops listed=[])(k:Nat)(hk:k<ops.size)(ih:∀j,j<k→up listed j):up listed k:=by
 cases hg:listed.getD k true with
 |true=>unfold up;rw[Array.getD_eq_getD_getElem?,Array.getElem?_eq_getElem (by omega)]at hg⊢;exact hg
 |false=>
  exfalso;have ho:ops[k]?=some ops[k]:=Array.getElem?_eq_getElem hk
  have hm:k∈Region.ready .any ops listed:=by
   unfold Region.ready;rw[List.mem_filter,List.mem_range];refine⟨hk,?_⟩;rw[hg,ho];simp only[Bool.not_false,Bool.true_and,Option.map_some,Option.getD_some];rw[Array.all_eq_true'];intro e he
   cases hbd:Region.binds .any e with
   |false=>rfl
   |true=>unfold backward at hb;rw[List.all_eq_true]at hb;have h1:=hb k (Zm hk);rw[ho]at h1;have h2:=Array.all_eq_true'.1 h1 e he;rw[hbd]at h2;simp only[Bool.not_true,Bool.false_or,decide_eq_true_eq]at h2⊢;exact ih e.on h2
  rw[hr]at hm;cases hm
theorem all_up{ops:Array Oper}{listed:Array Bool}(hb:backward ops=true)(hs:listed.size=ops.size)(hr:Region.ready .any ops listed=[])(k:Nat)(hk:k<ops.size):up listed k:=by induction k using Nat.strongRecOn with|_ k ih=>exact up_next hb hs hr k hk (fun j hj=>ih j hj (by omega))
def dstOnce(ops:Array Oper):Bool:=(List.range ops.size).all fun k=>(List.range ops.size).all fun k'=>k==k'||match(ops[k]?).bind (·.dst),(ops[k']?).bind (·.dst)with|some t,some t'=>t !=t'|_,_=>true
theorem dstOnce_spec{ops:Array Oper}(h:dstOnce ops=true):DstOnce ops:=by intro k k' o o' t ho ho' ht ht';unfold dstOnce at h;rw[List.all_eq_true]at h;have h1:=h k (List.mem_range.2 (Array.getElem?_eq_some_iff.1 ho).1);rw[List.all_eq_true]at h1;have h2:=h1 k' (List.mem_range.2 (Array.getElem?_eq_some_iff.1 ho').1);rw[ho,ho']at h2;simp only[Option.bind_some,ht,ht',bne_self_eq_false,Bool.or_false]at h2;simpa using h2
def dstIn(ops:Array Oper)(D:List Nat)(n:Nat):Bool:=ops.all fun o=>match o.dst with|some t=>D.contains t&&decide (t<n)|none=>true
theorem dstIn_spec{ops:Array Oper}{D:List Nat}{n:Nat}(h:dstIn ops D n=true){k t:Nat}{o:Oper}(ho:ops[k]?=some o)(ht:o.dst=some t):t∈D∧t<n:=by unfold dstIn at h;have:=Array.all_eq_true'.1 h o (Array.mem_of_getElem? ho);rw[ht]at this;simp only[Bool.and_eq_true,List.contains_iff_mem,decide_eq_true_eq]at this;exact this
structure OpOut(P:Program)(ops:Array Oper)(Q:Exit→Act→World→Prop)(i:Nat)(K:Act→World→Prop)(a:Act)(w:World):Prop where
 out:wpOp P ops Q i K a w
theorem wp_region_gj{P:Program}{ops:Array Oper}{Q:Exit→Act→World→Prop}{J:Array Bool→Act→World→Prop}{id:Nat}{a:Act}{w:World}(hm:P.follows .mixedOrders=true)(hstep:∀listed a w i,i∈Region.ready .any ops listed→J listed a w→OpOut P ops Q i (J (listed.setIfInBounds i true)) a w)(hend:∀listed a w,Region.ready .any ops listed=[]→J listed a w→Q .normal a w)(h0:J (Array.replicate ops.size false) a w.drew):(Code.region id ops true).wp P Q a w:=wp_region_inv hm (fun l a w i h j=>(hstep l a w i h j).out) hend h0
structure GJ(ops:Array Oper)(S:Array Bool→Nat→Value→World→Prop)(C:Array Bool→(Nat→Value)→World→Prop)(a0:Act)(listed:Array Bool)(a:Act)(w:World):Prop where
 com:C listed (fun t=>a.tmps.getD t undef) w
 defers:a.defers=a0.defers
 size:a.tmps.size=a0.tmps.size
 lsize:listed.size=ops.size
 closed:∀i j,up listed i→waitsOn ops i j=true→up listed j
 old:∀t:Nat,(∀(k:Nat)(o:Oper),ops[k]?=some o→o.dst≠some t)→a.tmps.getD t undef=a0.tmps.getD t undef
 got:∀(k:Nat)(o:Oper)(t:Nat),ops[k]?=some o→o.dst=some t→up listed k→S listed k (a.tmps.getD t undef) w
section
variable{ops:Array Oper}{S:Array Bool→Nat→Value→World→Prop}{C:Array Bool→(Nat→Value)→World→Prop}{a0 a:Act}{listed:Array Bool}{w w':World}
theorem nu{i k:Nat}(hj:GJ ops S C a0 listed a w)(hun:listed.getD i true=false)(h:wayB ops i k=true):¬up listed k:=fun u=>not_up hun (way_fold hj.closed _ [i] (fun x hx hu=>by rw[List.mem_singleton]at hx;exact hx▸hu) k (by unfold wayB at h;exact List.contains_iff_mem.1 h) u)
theorem GJ.start(hC:C (Array.replicate ops.size false) (fun t=>a.tmps.getD t undef) w):GJ ops S C a (Array.replicate ops.size false) a w:=⟨hC,rfl,rfl,by simp,fun _ _ h=>absurd h (up_none _ _),fun _ _=>rfl,fun k _ _ _ _ hl=>absurd hl (up_none _ _)⟩
theorem GJ.step{i:Nat}{o:Oper}{v:Value}(h:GJ ops S C a0 listed a w)(hd:dstOnce ops=true)(hr:i∈Region.ready .any ops listed)(ho:ops[i]?=some o)(hlt:∀t,o.dst=some t→t<a0.tmps.size)(hS:∀k v,k≠i→up listed k→S listed k v w→S (listed.setIfInBounds i true) k v w')(hv:∀t,o.dst=some t→S (listed.setIfInBounds i true) i v w')(hC:C (listed.setIfInBounds i true) (fun t=>(a.put o.dst v).tmps.getD t undef) w'):GJ ops S C a0 (listed.setIfInBounds i true) (a.put o.dst v) w':=by
 refine⟨hC,?_,?_,by simp[h.lsize],fun i' j hu hw=>?_,fun t' hn=>?_,fun k o' t' hk ht' hl=>?_⟩;·unfold Act.put;split<;>exact h.defers
 ·unfold Act.put;split<;>simp[h.size]
 ·by_cases e:i'=i;(·subst e;exact up_keep (up_dep hr hw));·exact up_keep (h.closed i' j (up_set hu e) hw)
 ·rw[←h.old t' hn]
  cases ht:o.dst with
  |none=>rfl
  |some t=>have hne:t≠t':=fun e=>hn i o ho (e▸ht);show(a.tmps.setIfInBounds t v).getD t' undef=_;rw[Array.getD_eq_getD_getElem?,Array.getElem?_setIfInBounds_ne hne,←Array.getD_eq_getD_getElem?]
 ·by_cases hki:k=i;·subst hki;(obtain rfl:o=o':=by rw[ho]at hk;exact Option.some.inj hk);rw[ht'];show S _ _ ((a.tmps.setIfInBounds t' v).getD t' undef) w';rw[Array.getD_eq_getD_getElem?,Array.getElem?_setIfInBounds_self_of_lt (by rw[h.size];exact hlt _ ht')];exact hv _ ht'
  ·have h2:=hS k _ hki (up_set hl hki) (h.got k o' t' hk ht' (up_set hl hki))
   cases ht:o.dst with
   |none=>exact h2
   |some t=>have hne:t≠t':=fun e=>hki (dstOnce_spec hd k i o' o t' hk ho ht' (e▸ht));show S _ _ ((a.tmps.setIfInBounds t v).getD t' undef) w';rw[Array.getD_eq_getD_getElem?,Array.getElem?_setIfInBounds_ne hne,←Array.getD_eq_getD_getElem?];exact h2
theorem GJ.opened(h:GJ ops S C a0 listed a w)(D:List Nat)(hD:dstIn ops D a0.tmps.size=true):∃f:Nat→Value,a=⟨D.foldl (fun y d=>y.setIfInBounds d (f d)) a0.tmps,a0.defers⟩∧C listed f w∧∀(k:Nat)(o:Oper)(t:Nat),ops[k]?=some o→o.dst=some t→up listed k→S listed k (f t) w:=by refine⟨fun t=>a.tmps.getD t undef,?_,h.com,h.got⟩;have:=array_of_old undef D a.tmps a0.tmps h.size (fun t ht=>h.old t (fun k o ho e=>ht (dstIn_spec hD ho e).1));obtain⟨tm,d⟩:=a;have hd:=h.defers;simp only at this hd⊢;rw[←this,hd]
theorem wanted_of{o oj:Oper}{tm:Array Value}{j tj:Nat}{b c:Bool}(hg:o.guard=some (j,b))(hj:ops[j]?=some oj)(htj:oj.dst=some tj)(hv:tm.getD tj undef=.bool c):Region.wanted o (yielded ops tm)=(c==b):=by(have hlt:tj<tm.size:=by rcases Nat.lt_or_ge tj tm.size with h|h;(·exact h);·rw[Array.getD_eq_getD_getElem?,Array.getElem?_eq_none h]at hv;cases hv);(have h2:tm[tj]?=some (.bool c):=by rw[Array.getD_eq_getD_getElem?,Array.getElem?_eq_getElem hlt]at hv;rw[Array.getElem?_eq_getElem hlt];exact congrArg some hv);unfold Region.wanted;rw[hg];simp only[yielded,hj,Option.bind_some,htj,h2];cases c<;>cases b<;>rfl
theorem GJ.op{P:Program}{Q:Exit→Act→World→Prop}{i:Nat}{o:Oper}(h:GJ ops S C a0 listed a w)(hd:dstOnce ops=true)(hr:i∈Region.ready .any ops listed)(ho:ops[i]?=some o)(D:List Nat)(hD:dstIn ops D a0.tmps.size=true)(hrun:∀K:Act→World→Prop,(∀v w',(∀k v,k≠i→up listed k→S listed k v w→S (listed.setIfInBounds i true) k v w')→(∀t,o.dst=some t→S (listed.setIfInBounds i true) i v w')→C (listed.setIfInBounds i true) (fun t=>(a.put o.dst v).tmps.getD t undef) w'→K (a.put o.dst v) w')→if Region.wanted o (yielded ops a.tmps)=true then o.wp P a w K Q else K (a.put o.dst undef) w):OpOut P ops Q i (GJ ops S C a0 (listed.setIfInBounds i true)) a w:=by have hk:=hrun (GJ ops S C a0 (listed.setIfInBounds i true)) (fun v w' h1 h2 h3=>h.step hd hr ho (fun _ ht=>(dstIn_spec hD ho ht).2) h1 h2 h3);refine⟨?_⟩;unfold wpOp;simp only[ho];by_cases hw:Region.wanted o (yielded ops a.tmps)=true;(·rw[if_pos hw]at hk;rw[if_pos hw];exact .inl hk);·rw[if_neg hw]at hk;rw[if_neg hw];exact hk
end
end Go.Proofs.YtikepaanbnfpcaaGreatDoor
namespace Go.Proofs.YtikepaanbnfpcaaGreatDoor
def isLet(c:UInt8):Bool:=decide (97≤c.toNat∧c.toNat≤122)
def isDig(c:UInt8):Bool:=decide (48≤c.toNat∧c.toNat≤57)
def isIns(c:UInt8):Bool:=isLet c||isDig c||decide (c.toNat=45)
def isBlk(c:UInt8):Bool:=decide (c.toNat=32∨c.toNat=9∨c.toNat=13∨c.toNat=10)
def isSgn(c:UInt8):Bool:=decide (c.toNat=123∨c.toNat=125∨c.toNat=59∨c.toNat=44)
def runN(p:UInt8→Bool):List UInt8→Nat|[]=>0|c::l=>if p c then runN p l+1 else 0
theorem runN_le(p:UInt8→Bool):∀l,runN p l≤l.length|[]=>Nat.le_refl _|c::l=>by have:=runN_le p l;unfold runN;split<;>simp<;>omega
theorem runN_in(p:UInt8→Bool):∀(l:List UInt8)(i:Nat)(h:i<l.length),i<runN p l→p l[i]=true
 |[],i,h,_=>by simp at h
 |c::l,i,h,hi=>by
  unfold runN at hi;split at hi
  ·next hc=>
    cases i with
    |zero=>exact hc
    |succ i=>exact runN_in p l i (by simpa using h) (by omega)
  ·omega
theorem runN_out(p:UInt8→Bool):∀(l:List UInt8)(h:runN p l<l.length),p l[runN p l]=false|[],h=>by simp at h|c::l,h=>by by_cases hc:p c=true;(·(have e:runN p (c::l)=runN p l+1:=by rw[runN,if_pos hc]);simp only[e,List.getElem_cons_succ];exact runN_out p l (by simp only[e]at h;simpa using h));·(have e:runN p (c::l)=0:=by rw[runN,if_neg hc]);simp only[e,List.getElem_cons_zero];simpa using hc
theorem runN_eq(p:UInt8→Bool)(l:List UInt8)(n:Nat)(hn:n≤l.length)(h1:∀i(h:i<l.length),i<n→p l[i]=true)(h2:∀h:n<l.length,p l[n]=false):runN p l=n:=by have hle:=runN_le p l;rcases Nat.lt_trichotomy (runN p l) n with h|h|h;(·have a:=runN_out p l (by omega);rw[h1 _ (by omega) h]at a;cases a);(·exact h);·have a:=runN_in p l n (by omega) h;rw[h2 (by omega)]at a;cases a
theorem runN_app(p:UInt8→Bool)(b:UInt8)(hb:p b=false)(y:List UInt8):∀x:List UInt8,runN p (x++b::y)=runN p x|[]=>by simp[runN,hb]|c::x=>by have:=runN_app p b hb y x;rw[List.cons_append,runN,runN,this]
theorem runN_all(p:UInt8→Bool):∀l:List UInt8,(∀c∈l,p c=true)→runN p l=l.length|[],_=>rfl|c::l,h=>by rw[runN,if_pos (h c (by simp)),runN_all p l (fun d hd=>h d (by simp[hd]))];rfl
theorem runN_take(p:UInt8→Bool):∀l:List UInt8,∀c∈l.take (runN p l),p c=true|[],c,h=>by simp at h|d::l,c,h=>by by_cases hd:p d=true;(·rw[runN,if_pos hd,List.take_succ_cons]at h;rcases List.mem_cons.1 h with rfl|h;(·exact hd);·exact runN_take p l c h);·rw[runN,if_neg hd]at h;simp at h
theorem runN_pos(p:UInt8→Bool)(c:UInt8)(l:List UInt8)(h:p c=true):runN p (c::l)=runN p l+1:=by rw[runN,if_pos h]
theorem runN_zero(p:UInt8→Bool)(c:UInt8)(l:List UInt8)(h:p c=false):runN p (c::l)=0:=by rw[runN,if_neg (by simp[h])]
def skp:Bool→List UInt8→List UInt8|_,[]=>[]|true,c::l=>if c.toNat=10 then skp false l else skp true l|false,c::l=>if isBlk c then skp false l else if c.toNat=35 then skp true l else c::l
theorem skp_nil(b:Bool):skp b []=[]:=by cases b<;>rfl
theorem skp_blk{c:UInt8}(h:isBlk c=true)(l:List UInt8):skp false (c::l)=skp false l:=by rw[skp,if_pos h]
theorem skp_hash{c:UInt8}(h:c.toNat=35)(l:List UInt8):skp false (c::l)=skp true l:=by rw[skp,if_neg (by simp[isBlk,h]),if_pos h]
theorem skp_stop{c:UInt8}(h:isBlk c=false)(h2:c.toNat≠35)(l:List UInt8):skp false (c::l)=c::l:=by rw[skp,if_neg (by simp[h]),if_neg h2]
theorem skp_suf:∀(b:Bool)(l:List UInt8),∃k,k≤l.length∧skp b l=l.drop k|b,[]=>⟨0,Nat.le_refl _,by rw[skp_nil];rfl⟩|true,c::l=>by by_cases h:c.toNat=10;(·obtain⟨k,h1,h2⟩:=skp_suf false l;exact⟨k+1,by simpa using h1,by rw[skp,if_pos h,h2];rfl⟩);·obtain⟨k,h1,h2⟩:=skp_suf true l;exact⟨k+1,by simpa using h1,by rw[skp,if_neg h,h2];rfl⟩|false,c::l=>by by_cases h:isBlk c=true;(·obtain⟨k,h1,h2⟩:=skp_suf false l;exact⟨k+1,by simpa using h1,by rw[skp_blk h,h2];rfl⟩);·by_cases h':c.toNat=35;(·obtain⟨k,h1,h2⟩:=skp_suf true l;exact⟨k+1,by simpa using h1,by rw[skp_hash h',h2];rfl⟩);·exact⟨0,Nat.zero_le _,by rw[skp_stop (by simpa using h) h'];rfl⟩
theorem skp_len(b:Bool)(l:List UInt8):(skp b l).length≤l.length:=by obtain⟨k,_,h⟩:=skp_suf b l;rw[h];simp
def idleN(l:List UInt8):Nat:=l.length-(skp false l).length
theorem idleN_le(l:List UInt8):idleN l≤l.length:=Nat.sub_le _ _
theorem idleN_drop(l:List UInt8):l.drop (idleN l)=skp false l:=by obtain⟨k,h1,h⟩:=skp_suf false l;unfold idleN;rw[h,List.length_drop,show l.length-(l.length-k)=k by omega]
theorem idleN_add(l:List UInt8):idleN l+(skp false l).length=l.length:=by have:=skp_len false l;unfold idleN;omega
theorem skp_head:∀(b:Bool)(l:List UInt8)(c:UInt8)(m:List UInt8),skp b l=c::m→isBlk c=false∧c.toNat≠35|b,[],c,m,h=>by rw[skp_nil]at h;cases h|true,d::l,c,m,h=>by by_cases h1:d.toNat=10;(·rw[skp,if_pos h1]at h;exact skp_head false l c m h);·rw[skp,if_neg h1]at h;exact skp_head true l c m h|false,d::l,c,m,h=>by by_cases h1:isBlk d=true;(·rw[skp_blk h1]at h;exact skp_head false l c m h);·by_cases h2:d.toNat=35;(·rw[skp_hash h2]at h;exact skp_head true l c m h);·rw[skp_stop (by simpa using h1) h2]at h;injection h with e _;subst e;exact⟨by simpa using h1,h2⟩
theorem skp_skp(b:Bool)(l:List UInt8):skp false (skp b l)=skp b l:=by
 cases h:skp b l with
 |nil=>rfl
 |cons c m=>obtain⟨h1,h2⟩:=skp_head b l c m h;exact skp_stop h1 h2 m
structure Tok where
 kind:Nat
 text:List UInt8
 num:Int
 off:Int
def numV(l:List UInt8):Nat:=l.foldl (fun n c=>10*n+(c.toNat-48)) 0
def badT(e:Nat):Tok×Nat:=(⟨0,[],0,0⟩,e)
def fst1:List UInt8→Tok×Nat|[]=>badT 4|c::m=>if isLet c then(if 12<runN isIns (c::m)then badT 3 else(⟨1,(c::m).take (runN isIns (c::m)),0,0⟩,0))else if isDig c then if c.toNat=48∧1<runN isDig (c::m)then badT 4 else if 9<runN isDig (c::m)then badT 3 else(⟨2,(c::m).take (runN isDig (c::m)),numV ((c::m).take (runN isDig (c::m))),0⟩,0)else if isSgn c then(⟨3,[c],0,0⟩,0)else badT 4
def Tok.at_(t:Tok)(o:Int):Tok:={t with off:=o}
def itemsN:Nat→Nat→List UInt8→List (Tok×Nat)|0,_,_=>[]|n+1,o,l=>match skp false l with|[]=>[]|c::m=>((fst1 (c::m)).1.at_ ((o+idleN l:Nat):Int),(fst1 (c::m)).2)::if(fst1 (c::m)).2=0 then itemsN n (o+idleN l+(fst1 (c::m)).1.text.length) ((c::m).drop (fst1 (c::m)).1.text.length)else[]
def items(o:Nat)(l:List UInt8):List (Tok×Nat):=itemsN (l.length+1) o l
theorem fst1_text{l:List UInt8}(h:(fst1 l).2=0):0<(fst1 l).1.text.length∧(fst1 l).1.text.length≤l.length∧(fst1 l).1.text=l.take (fst1 l).1.text.length:=by
 cases l with
 |nil=>cases h
 |cons c m=>rw[fst1]at h⊢;split;(·next hc=>rw[if_pos hc]at h;split at h;(·cases h);·next hr=>rw[if_neg hr];have:=runN_le isIns (c::m);have h2:runN isIns (c::m)=runN isIns m+1:=runN_pos _ _ _ (by simp[isIns,hc]);(have h3:(List.take (runN isIns (c::m)) (c::m)).length=runN isIns (c::m):=by rw[List.length_take];omega);refine⟨by rw[h3];omega,by rw[h3];exact this,by rw[h3]⟩);·next hc=>rw[if_neg hc]at h;split;(·next hd=>rw[if_pos hd]at h;split at h;(·cases h);·next h0=>rw[if_neg h0];split at h;(·cases h);·next hr=>rw[if_neg hr];have:=runN_le isDig (c::m);have h2:runN isDig (c::m)=runN isDig m+1:=runN_pos _ _ _ hd;(have h3:(List.take (runN isDig (c::m)) (c::m)).length=runN isDig (c::m):=by rw[List.length_take];omega);refine⟨by rw[h3];omega,by rw[h3];exact this,by rw[h3]⟩);·next hd=>rw[if_neg hd]at h;split;(·simp);·next hs=>rw[if_neg hs]at h;cases h
theorem itemsN_more:∀(n m o:Nat)(l:List UInt8),l.length<n→l.length<m→itemsN n o l=itemsN m o l
 |0,_,_,_,h,_=>by omega
 |_+1,0,_,_,_,h=>by omega
 |n+1,m+1,o,l,h1,h2=>by
  rw[itemsN,itemsN];have hl:=skp_len false l
  cases hs:skp false l with
  |nil=>rfl
  |cons c t=>rw[hs]at hl;by_cases h0:(fst1 (c::t)).2=0;(·obtain⟨a1,a2,_⟩:=fst1_text h0;simp only[h0,if_true];rw[itemsN_more n m _ _ (by rw[List.length_drop];omega) (by rw[List.length_drop];omega)]);·simp only[h0,if_false]
theorem items_nil{o:Nat}{l:List UInt8}(h:skp false l=[]):items o l=[]:=by rw[items,itemsN,h]
theorem items_cons{o:Nat}{l:List UInt8}{c:UInt8}{m:List UInt8}(h:skp false l=c::m)(h0:(fst1 (c::m)).2=0):items o l=((fst1 (c::m)).1.at_ ((o+idleN l:Nat):Int),0)::items (o+idleN l+(fst1 (c::m)).1.text.length) ((c::m).drop (fst1 (c::m)).1.text.length):=by have hl:=skp_len false l;obtain⟨a1,a2,_⟩:=fst1_text h0;rw[h]at hl;rw[items,itemsN,h];simp only[h0,if_true];rw[items,itemsN_more _ _ _ _ (by rw[List.length_drop];omega) (Nat.lt_succ_self _)]
theorem items_bad{o:Nat}{l:List UInt8}{c:UInt8}{m:List UInt8}(h:skp false l=c::m)(h0:(fst1 (c::m)).2≠0):items o l=[((fst1 (c::m)).1.at_ ((o+idleN l:Nat):Int),(fst1 (c::m)).2)]:=by rw[items,itemsN,h];simp only[h0,if_false]
def fin:List (Tok×Nat)→List Tok→List Tok×Int×Nat|[],acc=>(acc,0,0)|(t,e)::r,acc=>if e=0 then fin r (acc++[t])else([],t.off,e)
def toksF(l:List UInt8):List Tok×Int×Nat:=if 4096<l.length then([],4096,3)else fin (items 0 l) []
def rightT(t:Tok):Prop:=t.text≠[]∧(fst1 t.text).2=0∧(fst1 t.text).1.kind=t.kind∧(fst1 t.text).1.text=t.text∧(fst1 t.text).1.num=t.num
def joinL(sep:List UInt8):List (List UInt8)→List UInt8|[]=>[]|[x]=>x|x::y::r=>x++sep++joinL sep (y::r)
instance(t:Tok):Decidable (rightT t):=by unfold rightT;infer_instance
def printF(l:List Tok):List UInt8×Nat:=if∀t∈l,rightT t then(if 4096<(joinL [32] (l.map Tok.text)).length then([],3)else(joinL [32] (l.map Tok.text),0))else([],1)
theorem isIns_dig{b:UInt8}(h:isIns b=false):isDig b=false:=by unfold isIns at h;cases hd:isDig b;(·rfl);·rw[hd]at h;simp at h
theorem take_app{l y:List UInt8}{n:Nat}(h:n≤l.length):(l++y).take n=l.take n:=by rw[List.take_append_of_le_length h]
theorem fst1_app(c:UInt8)(m:List UInt8)(b:UInt8)(y:List UInt8)(hb:isIns b=false):fst1 ((c::m)++b::y)=fst1 (c::m):=by have hd:=isIns_dig hb;have e1:=runN_app isIns b hb y (c::m);have e2:=runN_app isDig b hd y (c::m);have t1:=take_app (l:=c::m) (y:=b::y) (runN_le isIns (c::m));have t2:=take_app (l:=c::m) (y:=b::y) (runN_le isDig (c::m));simp only[List.cons_append]at e1 e2 t1 t2⊢;rw[fst1,fst1,e1,e2,t1,t2]
theorem fst1_head{c:UInt8}{m:List UInt8}(h:(fst1 (c::m)).2=0):isBlk c=false∧c.toNat≠35:=by rw[fst1]at h;by_cases h1:isLet c=true;(·unfold isLet at h1;have:=of_decide_eq_true h1;exact⟨by unfold isBlk;apply decide_eq_false;omega,by omega⟩);·rw[if_neg h1]at h;by_cases h2:isDig c=true;(·unfold isDig at h2;have:=of_decide_eq_true h2;exact⟨by unfold isBlk;apply decide_eq_false;omega,by omega⟩);·rw[if_neg h2]at h;by_cases h3:isSgn c=true;(·unfold isSgn at h3;have:=of_decide_eq_true h3;exact⟨by unfold isBlk;apply decide_eq_false;omega,by omega⟩);·rw[if_neg h3]at h;cases h
def okI(l:List (Tok×Nat)):Prop:=∀x∈l,x.2=0
instance(l:List (Tok×Nat)):Decidable (okI l):=by unfold okI;infer_instance
theorem fin_ok:∀(l:List (Tok×Nat))(acc:List Tok),okI l→fin l acc=(acc++l.map Prod.fst,0,0)|[],acc,_=>by simp[fin]|(t,e)::r,acc,h=>by have h0:e=0:=h _ (List.mem_cons_self ..);rw[fin,if_pos h0,fin_ok r _ (fun x hx=>h x (by simp[hx]))];simp
theorem fin_app:∀(l r:List (Tok×Nat))(acc:List Tok),okI l→fin (l++r) acc=fin r (acc++l.map Prod.fst)|[],r,acc,_=>by simp|(t,e)::l,r,acc,h=>by have h0:e=0:=h _ (List.mem_cons_self ..);rw[List.cons_append,fin,if_pos h0,fin_app l r _ (fun x hx=>h x (by simp[hx]))];simp
theorem fin_bad:∀(l:List (Tok×Nat)),¬okI l→∃o e,e≠0∧∀(r:List (Tok×Nat))acc,fin (l++r) acc=([],o,e)|[],h=>(h (fun x hx=>by simp at hx)).elim|(t,e)::l,h=>by by_cases h0:e=0;(·obtain⟨o,f,h1,h2⟩:=fin_bad l (fun hl=>h (fun x hx=>by rcases List.mem_cons.1 hx with rfl|hx;(·exact h0);·exact hl x hx));exact⟨o,f,h1,fun r acc=>by rw[List.cons_append,fin,if_pos h0,h2]⟩);·exact⟨t.off,e,h0,fun r acc=>by rw[List.cons_append,fin,if_neg h0]⟩
theorem fin_err{l:List (Tok×Nat)}{acc:List Tok}(h:(fin l acc).2.2≠0):(fin l acc).1=[]∧¬okI l:=by by_cases hl:okI l;(·rw[fin_ok l acc hl]at h;simp at h);·obtain⟨o,e,_,h2⟩:=fin_bad l hl;have:=h2 [] acc;rw[List.append_nil]at this;exact⟨by rw[this],hl⟩
theorem items_ind{P:Nat→List UInt8→Prop}(h0:∀o l,skp false l=[]→P o l)(h1:∀o l c m,skp false l=c::m→(fst1 (c::m)).2≠0→P o l)(h2:∀o l c m,skp false l=c::m→(fst1 (c::m)).2=0→P (o+idleN l+(fst1 (c::m)).1.text.length) ((c::m).drop (fst1 (c::m)).1.text.length)→P o l):∀o l,P o l:=by
 have main:∀n o(l:List UInt8),l.length<n→P o l:=by
  intro n
  induction n with
  |zero=>intro o l h;omega
  |succ n ih=>
   intro o l h
   cases hs:skp false l with
   |nil=>exact h0 o l hs
   |cons c m=>by_cases he:(fst1 (c::m)).2=0;(·obtain⟨a1,a2,_⟩:=fst1_text he;have:=skp_len false l;rw[hs]at this;exact h2 o l c m hs he (ih _ _ (by rw[List.length_drop];omega)));·exact h1 o l c m hs he
 exact fun o l=>main _ o l (Nat.lt_succ_self _)
theorem items_shift(k:Nat):∀o l,items (o+k) l=(items o l).map fun x=>(x.1.at_ (x.1.off+k),x.2):=by refine items_ind ?_ ?_ ?_;(·intro o l h;rw[items_nil h,items_nil h];rfl);(·intro o l c m h he;rw[items_bad h he,items_bad h he];simp only[List.map_cons,List.map_nil,Tok.at_];congr 4;omega);·intro o l c m h he ih;rw[items_cons h he,items_cons h he,List.map_cons,←ih,show o+idleN l+(fst1 (c::m)).1.text.length+k=o+k+idleN l+(fst1 (c::m)).1.text.length by omega];simp only[Tok.at_];congr 3;omega
def bare(t:Tok):Tok:=t.at_ 0
def bareI(l:List (Tok×Nat)):List (Tok×Nat):=l.map fun x=>(bare x.1,x.2)
theorem bareI_skp{l l':List UInt8}(h:skp false l=skp false l')(o o':Nat):bareI (items o l)=bareI (items o' l'):=by
 cases hs:skp false l' with
 |nil=>rw[items_nil hs,items_nil (h.trans hs)]
 |cons c m=>by_cases he:(fst1 (c::m)).2=0;(·rw[items_cons hs he,items_cons (h.trans hs) he];(have e:∀a b(x:List UInt8),bareI (items a x)=bareI (items b x):=by(have e1:∀(b:Nat)(x:List UInt8),bareI (items b x)=bareI (items 0 x):=by intro b x;have:=items_shift b 0 x;rw[Nat.zero_add]at this;rw[this];simp only[bareI,bare,Tok.at_,List.map_map,Function.comp_def]);intro a b x;rw[e1 a,e1 b]);have e2:=e (o+idleN l+(fst1 (c::m)).1.text.length) (o'+idleN l'+(fst1 (c::m)).1.text.length) ((c::m).drop (fst1 (c::m)).1.text.length);unfold bareI at e2⊢;rw[List.map_cons,List.map_cons,e2];rfl);·rw[items_bad hs he,items_bad (h.trans hs) he];rfl
theorem fst1_off(l:List UInt8):(fst1 l).1.off=0:=by
 cases l with
 |nil=>rfl
 |cons c m=>rw[fst1];split;(·split<;>rfl);·split;(·split;(·rfl);·split<;>rfl);·split<;>rfl
theorem rightT_fst{t:Tok}(h:rightT t):fst1 t.text=(bare t,0):=by obtain⟨_,h2,h3,h4,h5⟩:=h;have h6:=fst1_off t.text;generalize fst1 t.text=x at*;obtain⟨⟨k,tx,n,o⟩,e⟩:=x;simp only at h2 h3 h4 h5 h6;subst h2;subst h3;subst h4;subst h5;subst h6;rfl
theorem blk_ins{b:UInt8}(h:isBlk b=true):isIns b=false:=by unfold isBlk at h;have:=of_decide_eq_true h;unfold isIns isLet isDig;rw[decide_eq_false (by omega),decide_eq_false (by omega),decide_eq_false (by omega)];rfl
theorem skp_blks:∀(s y:List UInt8),(∀c∈s,isBlk c=true)→skp false (s++y)=skp false y|[],_,_=>rfl|c::s,y,h=>by rw[List.cons_append,skp_blk (h c (by simp)),skp_blks s y (fun d hd=>h d (by simp[hd]))]
theorem items_join(sep:List UInt8)(hs:sep≠[])(hb:∀c∈sep,isBlk c=true)(y:List UInt8)(hy:skp false y=[])(hy2:∀b z,y=b::z→isIns b=false):∀(ts:List Tok)(o:Nat),(∀t∈ts,rightT t)→bareI (items o (joinL sep (ts.map Tok.text)++y))=ts.map fun t=>(bare t,0)
 |[],o,_=>by rw[List.map_nil,joinL,List.nil_append,items_nil hy];rfl
 |t::r,o,h=>by
  have hr:rightT t:=h t (by simp);have hf:=rightT_fst hr;obtain⟨hne,he,_⟩:=hr
  obtain⟨c,m,hcm⟩:∃c m,t.text=c::m:=by
   cases ht:t.text with
   |nil=>exact(hne ht).elim
   |cons c m=>exact⟨c,m,rfl⟩
  rw[hcm]at he;obtain⟨q1,q2⟩:=fst1_head he
  have step:∀(z:List UInt8),(∀b x,z=b::x→isIns b=false)→bareI (items o (t.text++z))=(bare t,0)::bareI (items 0 z):=by
   intro z hz
   have ef:fst1 (c::(m++z))=(bare t,0):=by
    rw[←hf,hcm]
    cases z with
    |nil=>rw[List.append_nil]
    |cons b x=>exact fst1_app c m b x (hz b x rfl)
   (have e1:skp false (t.text++z)=c::(m++z):=by rw[hcm,List.cons_append,skp_stop q1 q2]);(have e2:(bare t).text.length=m.length+1:=by show t.text.length=_;rw[hcm];rfl);(have e3:(c::(m++z)).drop (m.length+1)=z:=by rw[List.drop_succ_cons,List.drop_left'];rfl);rw[items_cons e1 (by rw[ef]),ef];simp only;rw[e2,e3];show(bare ((bare t).at_ _),0)::bareI _=_;rw[bareI_skp (l:=z) (l':=z) rfl _ 0];rfl
  cases r with
  |nil=>rw[List.map_cons,List.map_nil,joinL,step y hy2,items_nil hy];rfl
  |cons u r=>
   have ih:=items_join sep hs hb y hy hy2 (u::r) 0 (fun x hx=>h x (by simp[hx]));rw[List.map_cons,List.map_cons,joinL,List.append_assoc,List.append_assoc,step _ ?_,bareI_skp (skp_blks sep _ hb) 0 0];·rw[←List.map_cons (f:=Tok.text),ih];rfl
   ·intro b x hx
    cases sep with
    |nil=>exact(hs rfl).elim
    |cons b' s=>rw[List.cons_append]at hx;injection hx with e _;subst e;exact blk_ins (hb _ (by simp))
def idleQ:Bool→List UInt8→Bool|_,[]=>true|r,c::l=>if c.toNat=10 then idleQ false l else if r=true∨c.toNat=35 then idleQ true l else if c.toNat=32∨c.toNat=9∨c.toNat=13 then idleQ false l else false
theorem idleQ_skp:∀(b:Bool)(l:List UInt8)(k:Nat),k=l.length-(skp b l).length→idleQ b (l.take k)=true|b,[],k,_=>by cases b<;>simp[idleQ]|true,c::l,k,hk=>by have hl1:=skp_len true l;have hl2:=skp_len false l;by_cases h:c.toNat=10;(·rw[skp,if_pos h]at hk;obtain⟨j,rfl⟩:∃j,k=j+1:=⟨l.length-(skp false l).length,by simp at hk;omega⟩;rw[List.take_succ_cons,idleQ,if_pos h];exact idleQ_skp false l j (by simp at hk;omega));·rw[skp,if_neg h]at hk;obtain⟨j,rfl⟩:∃j,k=j+1:=⟨l.length-(skp true l).length,by simp at hk;omega⟩;rw[List.take_succ_cons,idleQ,if_neg h,if_pos (.inl rfl)];exact idleQ_skp true l j (by simp at hk;omega)|false,c::l,k,hk=>by have hl1:=skp_len true l;have hl2:=skp_len false l;by_cases h:isBlk c=true;(·rw[skp_blk h]at hk;obtain⟨j,rfl⟩:∃j,k=j+1:=⟨l.length-(skp false l).length,by simp at hk;omega⟩;(have hb:c.toNat=32∨c.toNat=9∨c.toNat=13∨c.toNat=10:=by unfold isBlk at h;exact of_decide_eq_true h);have ih:=idleQ_skp false l j (by simp at hk;omega);rw[List.take_succ_cons,idleQ];by_cases h1:c.toNat=10;(·rw[if_pos h1];exact ih);·rw[if_neg h1,if_neg (by intro h;rcases h with h|h;(·cases h);·omega),if_pos (by omega)];exact ih);·by_cases h2:c.toNat=35;(·rw[skp_hash h2]at hk;obtain⟨j,rfl⟩:∃j,k=j+1:=⟨l.length-(skp true l).length,by simp at hk;omega⟩;rw[List.take_succ_cons,idleQ,if_neg (by omega),if_pos (.inr h2)];exact idleQ_skp true l j (by simp at hk;omega));·rw[skp_stop (by simpa using h) h2]at hk;(obtain rfl:k=0:=by omega);rfl
theorem okI_bare{l:List (Tok×Nat)}{ts:List Tok}(h:bareI l=ts.map fun t=>(bare t,0)):okI l∧(l.map Prod.fst).map bare=ts.map bare:=by constructor;(·intro x hx;have:(bare x.1,x.2)∈bareI l:=List.mem_map.2 ⟨x,hx,rfl⟩;rw[h]at this;obtain⟨t,_,ht⟩:=List.mem_map.1 this;injection ht with _ e;exact e.symm);·have e:=congrArg (List.map Prod.fst) h;unfold bareI at e;rw[List.map_map,List.map_map]at e;rw[List.map_map];exact e
def Chain(s:List UInt8):Nat→List Tok→Prop|o,[]=>idleQ false (s.drop o)=true|o,t::r=>∃n:Nat,t.off=(n:Int)∧o≤n∧n+t.text.length≤s.length∧0<t.text.length∧idleQ false ((s.take n).drop o)=true∧(s.take (n+t.text.length)).drop n=t.text∧Chain s (n+t.text.length) r
theorem stands(s:List UInt8):∀o l,o≤s.length→l=s.drop o→okI (items o l)→Chain s o ((items o l).map Prod.fst):=by refine items_ind ?_ ?_ ?_;(·intro o l h ho hl _;rw[items_nil h];have e:=idleQ_skp false l l.length (by rw[h];simp);rw[List.take_length]at e;show idleQ false (s.drop o)=true;rw[←hl];exact e);(·intro o l c m h he ho hl hok;rw[items_bad h he]at hok;exact(he (hok ((fst1 (c::m)).1.at_ ((o+idleN l:Nat):Int),(fst1 (c::m)).2) (List.mem_cons_self ..))).elim);·intro o l c m h he ih ho hl hok;rw[items_cons h he]at hok⊢;have ha:=idleN_add l;have hle:=idleN_le l;have hd:=idleN_drop l;(have hll:l.length=s.length-o:=by rw[hl,List.length_drop]);obtain⟨a1,a2,a3⟩:=fst1_text he;have hq:=idleQ_skp false l (idleN l) rfl;rw[h]at ha hd;(have hdrop:s.drop (o+idleN l)=c::m:=by rw[←List.drop_drop,←hl,hd]);refine⟨o+idleN l,rfl,by omega,?_,a1,?_,?_,?_⟩;(·show o+idleN l+(fst1 (c::m)).1.text.length≤s.length;omega);(·rw[List.drop_take,←hl,Nat.add_sub_cancel_left];exact hq);(·show(s.take (o+idleN l+(fst1 (c::m)).1.text.length)).drop (o+idleN l)=(fst1 (c::m)).1.text;rw[List.drop_take,hdrop,Nat.add_sub_cancel_left,←a3]);·refine ih (by omega) ?_ (fun x hx=>hok x (by simp[hx]));rw[←hdrop,List.drop_drop]
def bs(l:List UInt8):ByteArray:=⟨l.toArray⟩
theorem bs_list(l:List UInt8):(bs l).data.toList=l:=rfl
theorem bs_self(s:ByteArray):bs s.data.toList=s:=rfl
theorem bs_size(l:List UInt8):(bs l).size=l.length:=rfl
theorem ba_ext{a b:ByteArray}(h:a.data.toList=b.data.toList):a=b:=by rw[←bs_self a,←bs_self b,h]
theorem extract_list(s:ByteArray)(a b:Nat):(s.extract a b).data.toList=(s.data.toList.take b).drop a:=by rw[ByteArray.data_extract,Array.toList_extract,List.extract_eq_take_drop];rw[List.drop_take]
theorem extract_bs(l:List UInt8)(a b:Nat):(bs l).extract a b=bs ((l.take b).drop a):=ba_ext (by rw[extract_list,bs_list,bs_list])
theorem extract_front(l:List UInt8)(b:Nat):(bs l).extract 0 b=bs (l.take b):=by rw[extract_bs,List.drop_zero]
theorem decFrom_all:∀(l:List UInt8)(acc:Nat),(∀c∈l,isDig c=true)→Lib.decFrom acc l=some (l.foldl (fun n c=>10*n+(c.toNat-48)) acc)|[],acc,_=>rfl|c::l,acc,h=>by have hc:isDig c=true:=h c (by simp);have h1:48≤c.toNat∧c.toNat≤57:=of_decide_eq_true hc;(have hd:Lib.digitVal c=some (c.toNat-48):=by unfold Lib.digitVal;rw[if_pos h1]);rw[Lib.decFrom,hd];simp only;rw[decFrom_all l _ (fun d hd=>h d (by simp[hd])),List.foldl_cons,Nat.mul_comm]
theorem atoi_dig{l:List UInt8}(h:∀c∈l,isDig c=true)(h0:l≠[]):Lib.atoi l=some ((numV l:Nat):Int):=by
 cases l with
 |nil=>exact(h0 rfl).elim
 |cons c l=>have h1:48≤c.toNat∧c.toNat≤57:=of_decide_eq_true (h c (by simp));have e1:(c==45)=false:=beq_eq_false_iff_ne.2 (by intro e;subst e;simp at h1);have e2:(c==43)=false:=beq_eq_false_iff_ne.2 (by intro e;subst e;simp at h1);unfold Lib.atoi;simp only[e1,e2];unfold Lib.decNat;rw[if_neg (by simp),decFrom_all _ _ h];rfl
theorem numV_snoc(l:List UInt8)(c:UInt8):numV (l++[c])=10*numV l+(c.toNat-48):=by unfold numV;rw[List.foldl_append];rfl
theorem numV_lt:∀(l:List UInt8),(∀c∈l,isDig c=true)→numV l<10^l.length:=by
 have main:∀(l:List UInt8)(acc k:Nat),acc<10^k→(∀c∈l,isDig c=true)→l.foldl (fun n c=>10*n+(c.toNat-48)) acc<10^(k+l.length):=by
  intro l
  induction l with
  |nil=>intro acc k h _;exact h
  |cons c l ih=>intro acc k h hl;have h1:48≤c.toNat∧c.toNat≤57:=of_decide_eq_true (hl c (by simp));rw[List.foldl_cons,List.length_cons,show k+(l.length+1)=(k+1)+l.length by omega];refine ih _ _ ?_ (fun d hd=>hl d (by simp[hd]));rw[Nat.pow_succ];omega
 intro l h;have:=main l 0 0 (by decide) h;rwa[Nat.zero_add]at this
theorem joinL_lib(sep:List UInt8):∀xs:List (List UInt8),joinL sep xs=Lib.join xs sep|[]=>rfl|[x]=>by rw[joinL,Lib.join_one]|x::y::r=>by rw[joinL,joinL_lib sep (y::r),Lib.join_cons,Lib.join_cons];simp only[Lib.joinTail,List.map_cons,List.flatten_cons,List.append_assoc]
theorem joinL_len(sep:List UInt8):∀xs:List (List UInt8),(joinL sep xs).length=sep.length*(xs.length-1)+(xs.map List.length).sum|[]=>by simp[joinL]|[x]=>by simp[joinL]|x::y::r=>by have:=joinL_len sep (y::r);rw[joinL,List.length_append,List.length_append,this];simp only[List.length_cons,List.map_cons,List.sum_cons,Nat.add_sub_cancel];rw[Nat.mul_add];omega
theorem uint8_eq{a b:UInt8}:a=b↔a.toNat=b.toNat:=⟨fun h=>by rw[h],UInt8.toNat_inj.1⟩
theorem index_blk(c:UInt8):decide (0≤Lib.indexByte [32,9,13,10] c)=isBlk c:=by(have key:∀c:UInt8,(0≤Lib.indexByte [32,9,13,10] c)↔(c=32∨c=9∨c=13∨c=10):=by intro c;simp only[Lib.indexByte,beq_iff_eq];by_cases h1:32=c;(·simp[h1]);·by_cases h2:9=c;(·simp[h1,h2]);·by_cases h3:13=c;(·simp[h1,h2,h3]);·by_cases h4:10=c;(·simp[h1,h2,h3,h4]);·simp[h1,h2,h3,h4,Ne.symm h1,Ne.symm h2,Ne.symm h3,Ne.symm h4]);unfold isBlk;congr 1;rw[key c,uint8_eq,uint8_eq,uint8_eq,uint8_eq];rfl
theorem index_sgn(c:UInt8):decide (0≤Lib.indexByte [123,125,59,44] c)=isSgn c:=by(have key:∀c:UInt8,(0≤Lib.indexByte [123,125,59,44] c)↔(c=123∨c=125∨c=59∨c=44):=by intro c;simp only[Lib.indexByte,beq_iff_eq];by_cases h1:123=c;(·simp[h1]);·by_cases h2:125=c;(·simp[h1,h2]);·by_cases h3:59=c;(·simp[h1,h2,h3]);·by_cases h4:44=c;(·simp[h1,h2,h3,h4]);·simp[h1,h2,h3,h4,Ne.symm h1,Ne.symm h2,Ne.symm h3,Ne.symm h4]);unfold isSgn;congr 1;rw[key c,uint8_eq,uint8_eq,uint8_eq,uint8_eq];rfl
end Go.Proofs.YtikepaanbnfpcaaGreatDoor
