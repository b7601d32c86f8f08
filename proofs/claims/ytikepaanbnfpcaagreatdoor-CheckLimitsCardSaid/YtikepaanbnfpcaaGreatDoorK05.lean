/- Parts of the proof: SyG, SyW6, SyW7, SyW8, SyW9, SyN, Ck0, CkM. -/
import Derived.Test.YtikepaanbnfpcaaGreatDoorK01
import Derived.Test.YtikepaanbnfpcaaGreatDoorK04
import Derived.Test.YtikepaanbnfpcaaGreatDoorMac
import Derived.Maps.Own
import Derived.Maps.OwnSet
import Derived.Maps.Views
import Derived.Test.YtikepaanbnfpcaaGreatDoorK03
set_option linter.unusedVariables false
set_option linter.unusedSimpArgs false
set_option maxRecDepth 100000
set_option maxHeartbeats 16000000
namespace Go.Proofs.YtikepaanbnfpcaaGreatDoor
open Go.RowKit Go.Shelf
def TailJ(P:Program)(ops:Array Oper)(Q:Exit→Act→World→Prop)(n:Nat)(J:Array Bool→Act→World→Prop)(listed:Array Bool)(a:Act)(w:World):Prop:=listed.size=ops.size∧(((∀k,n≤k→¬up listed k)∧J listed a w)∨∃i,n<i∧i≤ops.size∧(∀k,k<ops.size→(up listed k↔k<i))∧wpOps P ops Q (List.range' i (ops.size-i)) a w)
def reach(ops:Array Oper):Nat→Nat→Nat→Bool|0,_,_=>false|f+1,i,j=>waitsOn ops i j||(List.range i).any fun m=>waitsOn ops i m&&reach ops f m j
theorem reach_of_up{ops:Array Oper}{listed:Array Bool}(hc:∀i j,up listed i→waitsOn ops i j=true→up listed j):∀(f i j:Nat),up listed i→reach ops f i j=true→up listed j|0,_,_,_,h=>by cases h|f+1,i,j,hi,h=>by unfold reach at h;rw[Bool.or_eq_true]at h;rcases h with h|h;(·exact hc i j hi h);·obtain⟨m,_,hm⟩:=List.any_eq_true.1 h;rw[Bool.and_eq_true]at hm;exact reach_of_up hc f m j (hc i m hi hm.1) hm.2
theorem reach_ready{ops:Array Oper}{listed:Array Bool}(hc:∀i j,up listed i→waitsOn ops i j=true→up listed j){n:Nat}(hr:n∈Region.ready .any ops listed){f j:Nat}(h:reach ops (f+1) n j=true):up listed j:=by unfold reach at h;rw[Bool.or_eq_true]at h;rcases h with h|h;(·exact up_dep hr h);·obtain⟨m,_,hm⟩:=List.any_eq_true.1 h;rw[Bool.and_eq_true]at hm;exact reach_of_up hc f m j (up_dep hr hm.1) hm.2
def tailR(ops:Array Oper)(n:Nat):Bool:=(List.range n).all (fun j=>reach ops (n+1) n j)&&(List.range ops.size).all fun k=>decide (k≤n)||waitsOn ops k (k-1)
theorem wp_gj_tail{P:Program}{ops:Array Oper}{Q:Exit→Act→World→Prop}{S:Array Bool→Nat→Value→World→Prop}{C:Array Bool→(Nat→Value)→World→Prop}{id:Nat}{a:Act}{w:World}(n:Nat)(hm:P.follows .mixedOrders=true)(hn:n<ops.size)(hb:backward ops=true)(ht:tailR ops n=true)(hstep:∀listed a' w i,i<n→i∈Region.ready .any ops listed→GJ ops S C a listed a' w→OpOut P ops Q i (GJ ops S C a (listed.setIfInBounds i true)) a' w)(hend:∀listed a' w,(∀k,k<n→up listed k)→GJ ops S C a listed a' w→wpList P ops Q (ops.toList.drop n) a' w)(h0:GJ ops S C a (Array.replicate ops.size false) a w.drew):(Code.region id ops true).wp P Q a w:=by unfold tailR at ht;rw[Bool.and_eq_true,List.all_eq_true,List.all_eq_true]at ht;(have tnext:∀k,k<ops.size→n<k→waitsOn ops k (k-1)=true:=by intro k hk hnk;have:=ht.2 k (Zm hk);rw[Bool.or_eq_true]at this;rcases this with h1|h1;(·have:=of_decide_eq_true h1;omega);·exact h1);refine wp_region_inv (J:=TailJ P ops Q n (GJ ops S C a)) hm ?_ ?_ ⟨by simp,.inl ⟨fun k _=>up_none _ _,h0⟩⟩;(·intro listed a w i hr⟨hs,hj⟩;obtain⟨hi,hun,_⟩:=ready_mem hr;have hnu:¬up listed i:=not_up hun;(have next:∀k,k<ops.size→(∀m,m<ops.size→(up listed m↔m<k))→i=k→∀m,m<ops.size→(up (listed.setIfInBounds i true) m↔m<k+1):=by intro k hk hu hik m hm;subst hik;by_cases e:m=i;(·subst e;exact⟨fun _=>by omega,fun _=>up_self (by omega)⟩);·exact⟨fun h=>by have:=(hu m hm).1 (up_set h e);omega,fun h=>up_keep ((hu m hm).2 (by omega))⟩);(have walk:∀k,k<ops.size→wpOps P ops Q (List.range' k (ops.size-k)) a w→wpOp P ops Q k (wpOps P ops Q (List.range' (k+1) (ops.size-(k+1)))) a w:=by intro k hk hw;rw[show ops.size-k=(ops.size-(k+1))+1 by omega,List.range'_succ,wpOps_cons]at hw;exact hw);rcases hj with⟨hlow,hj⟩|⟨k,hk,hks,hu,hw⟩;(·rcases Nat.lt_trichotomy i n with h|h|h;(·refine wpOp_mono (fun a w hj'=>⟨by simp[hs],.inl ⟨fun k hk hu=>?_,hj'⟩⟩) (hstep listed a w i h hr hj).out;exact hlow k hk (up_set hu (by omega)));(·subst h;have hall:∀j,j<i→up listed j:=fun j hj'=>reach_ready hj.closed hr (ht.1 j (Zm hj'));have hl:=hend listed a w hall hj;(have he:wpOps P ops Q (List.range' i (ops.size-i)) a w:=by have:=wpOps_eq_wpList (P:=P) (ops:=ops) (Q:=Q) (ops.toList.drop i) i (fun j=>by rw[List.getElem?_drop,Array.getElem?_toList]);rw[List.length_drop,Array.length_toList]at this;rw[this];exact hl);have hu:∀m,m<ops.size→(up listed m↔m<i):=fun m hm=>⟨fun h=>by rcases Nat.lt_or_ge m i with h1|h1;(·exact h1);·exact absurd h (hlow m h1),fun h=>hall m h⟩;refine wpOp_mono (fun a w hw'=>⟨by simp[hs],.inr ⟨i+1,by omega,by omega,next i hi hu rfl,hw'⟩⟩) (walk i hi he));·exact absurd (up_dep hr (tnext i hi h)) (hlow _ (by omega)));·(have hik:i=k:=by have h1:¬i<k:=fun h=>hnu ((hu i hi).2 h);rcases Nat.lt_or_ge k i with h2|h2;(·have h3:=up_dep hr (tnext i hi (by omega));have:=(hu (i-1) (by omega)).1 h3;omega);·omega);subst hik;exact wpOp_mono (fun a w hw'=>⟨by simp[hs],.inr ⟨i+1,by omega,by omega,next i hi hu rfl,hw'⟩⟩) (walk i hi hw));·intro listed a w hr⟨hs,hj⟩;have hall:∀k,k<ops.size→up listed k:=fun k hk=>all_up hb hs hr k hk;rcases hj with⟨hlow,_⟩|⟨k,hk,hks,hu,hw⟩;(·exact absurd (hall n hn) (hlow n (Nat.le_refl _)));·(have:k=ops.size:=by rcases Nat.lt_or_ge k ops.size with h|h;(·have:=(hu k h).1 (hall k h);omega);·omega);subst this;rw[Nat.sub_self]at hw;exact hw
def allPre(ops:Array Oper)(n:Nat):Bool:=(List.range ops.size).all fun i=>decide (i<n)||(List.range n).all fun j=>reach ops (i+1) i j
theorem wp_gj_two{P:Program}{ops:Array Oper}{Q:Exit→Act→World→Prop}{S:Array Bool→Nat→Value→World→Prop}{C:Array Bool→(Nat→Value)→World→Prop}{id:Nat}{a:Act}{w:World}(n:Nat)(hm:P.follows .mixedOrders=true)(hn:n<ops.size)(hb:backward ops=true)(ht:allPre ops n=true)(hstep:∀listed a' w i,i<n→i∈Region.ready .any ops listed→GJ ops S C a listed a' w→OpOut P ops Q i (GJ ops S C a (listed.setIfInBounds i true)) a' w)(hmid:∀listed a' w,(∀k,k<n→up listed k)→(∀k,n≤k→¬up listed k)→GJ ops S C a listed a' w→∃S2 C2,GJ ops S2 C2 a listed a' w∧(∀listed a' w i,n≤i→(∀k,k<n→up listed k)→i∈Region.ready .any ops listed→GJ ops S2 C2 a listed a' w→OpOut P ops Q i (GJ ops S2 C2 a (listed.setIfInBounds i true)) a' w)∧∀listed a' w,(∀k,k<ops.size→up listed k)→GJ ops S2 C2 a listed a' w→Q .normal a' w)(h0:GJ ops S C a (Array.replicate ops.size false) a w.drew):(Code.region id ops true).wp P Q a w:=by unfold allPre at ht;rw[List.all_eq_true]at ht;(have hpre:∀i,i<ops.size→n≤i→∀j,j<n→reach ops (i+1) i j=true:=by intro i hi hni j hj;have:=ht i (Zm hi);rw[Bool.or_eq_true]at this;rcases this with h1|h1;(·have:=of_decide_eq_true h1;omega);·exact List.all_eq_true.1 h1 j (Zm hj));refine wp_region_inv (J:=fun listed a' w=>listed.size=ops.size∧(((∀k,n≤k→¬up listed k)∧GJ ops S C a listed a' w)∨((∀k,k<n→up listed k)∧∃S2 C2,GJ ops S2 C2 a listed a' w∧(∀listed a' w i,n≤i→(∀k,k<n→up listed k)→i∈Region.ready .any ops listed→GJ ops S2 C2 a listed a' w→OpOut P ops Q i (GJ ops S2 C2 a (listed.setIfInBounds i true)) a' w)∧∀listed a' w,(∀k,k<ops.size→up listed k)→GJ ops S2 C2 a listed a' w→Q .normal a' w))) hm ?_ ?_ ⟨by simp,.inl ⟨fun k _=>up_none _ _,h0⟩⟩;(·intro listed a' w i hr⟨hs,hj⟩;obtain⟨hi,hun,_⟩:=ready_mem hr;have hnu:¬up listed i:=not_up hun;rcases hj with⟨hlow,hj⟩|⟨hall,S2,C2,hj,h2,h3⟩;(·rcases Nat.lt_or_ge i n with h|h;(·refine wpOp_mono (fun a w hj'=>⟨by simp[hs],.inl ⟨fun k hk hu=>?_,hj'⟩⟩) (hstep listed a' w i h hr hj).out;exact hlow k hk (up_set hu (by omega)));·have hall:∀j,j<n→up listed j:=fun j hj'=>reach_ready hj.closed hr (hpre i hi h j hj');obtain⟨S2,C2,hj2,h2,h3⟩:=hmid listed a' w hall hlow hj;exact wpOp_mono (fun a w hj'=>⟨by simp[hs],.inr ⟨fun k hk=>up_keep (hall k hk),S2,C2,hj',h2,h3⟩⟩) (h2 listed a' w i h hall hr hj2).out);·rcases Nat.lt_or_ge i n with h|h;(·exact absurd (hall i h) hnu);·exact wpOp_mono (fun a w hj'=>⟨by simp[hs],.inr ⟨fun k hk=>up_keep (hall k hk),S2,C2,hj',h2,h3⟩⟩) (h2 listed a' w i h hall hr hj).out);·intro listed a' w hr⟨hs,hj⟩;have hall:∀k,k<ops.size→up listed k:=fun k hk=>all_up hb hs hr k hk;rcases hj with⟨hlow,_⟩|⟨_,S2,C2,hj,_,h3⟩;(·exact absurd (hall n hn) (hlow n (Nat.le_refl _)));·exact h3 listed a' w hall hj
theorem wanted_undef{ops:Array Oper}{o oj:Oper}{tm:Array Value}{j tj:Nat}{b:Bool}(hg:o.guard=some (j,b))(hj:ops[j]?=some oj)(htj:oj.dst=some tj)(hv:tm.getD tj undef=undef):Region.wanted o (yielded ops tm)=false:=by unfold Region.wanted;rw[hg];simp only[yielded,hj,Option.bind_some,htj];rcases h:tm[tj]?with _|v;(·rfl);·rw[Array.getD_eq_getD_getElem?,h]at hv;have hv:v=undef:=hv;rw[hv];rfl
section
variable{ops:Array Oper}{S:Array Bool→Nat→Value→World→Prop}{C:Array Bool→(Nat→Value)→World→Prop}{a0 a:Act}{listed:Array Bool}{w w':World}
theorem GJ.yes{P:Program}{Q:Exit→Act→World→Prop}{i j tj:Nat}{b c:Bool}{o oj:Oper}(h:GJ ops S C a0 listed a w)(hd:dstOnce ops=true)(hr:i∈Region.ready .any ops listed)(ho:ops[i]?=some o)(D:List Nat)(hD:dstIn ops D a0.tmps.size=true)(hg:o.guard=some (j,b))(hj:ops[j]?=some oj)(htj:oj.dst=some tj)(hv:a.tmps.getD tj undef=.bool c)(hcb:(c==b)=true)(hrun:∀K:Act→World→Prop,(∀v w',(∀k v,k≠i→up listed k→S listed k v w→S (listed.setIfInBounds i true) k v w')→(∀t,o.dst=some t→S (listed.setIfInBounds i true) i v w')→C (listed.setIfInBounds i true) (fun t=>(a.put o.dst v).tmps.getD t undef) w'→K (a.put o.dst v) w')→o.wp P a w K Q):OpOut P ops Q i (GJ ops S C a0 (listed.setIfInBounds i true)) a w:=by have hk:=hrun (GJ ops S C a0 (listed.setIfInBounds i true)) (fun v w' h1 h2 h3=>h.step hd hr ho (fun _ ht=>(dstIn_spec hD ho ht).2) h1 h2 h3);refine⟨?_⟩;unfold wpOp;simp only[ho];rw[if_pos (by rw[wanted_of hg hj htj hv];exact hcb)];exact .inl hk
theorem GJ.no{P:Program}{Q:Exit→Act→World→Prop}{i j tj:Nat}{b c:Bool}{o oj:Oper}(h:GJ ops S C a0 listed a w)(hd:dstOnce ops=true)(hr:i∈Region.ready .any ops listed)(ho:ops[i]?=some o)(D:List Nat)(hD:dstIn ops D a0.tmps.size=true)(hg:o.guard=some (j,b))(hj:ops[j]?=some oj)(htj:oj.dst=some tj)(hv:a.tmps.getD tj undef=.bool c)(hcb:(c==b)=false)(hS:∀k v,k≠i→up listed k→S listed k v w→S (listed.setIfInBounds i true) k v w)(hv':∀t,o.dst=some t→S (listed.setIfInBounds i true) i undef w)(hC:C (listed.setIfInBounds i true) (fun t=>(a.put o.dst undef).tmps.getD t undef) w):OpOut P ops Q i (GJ ops S C a0 (listed.setIfInBounds i true)) a w:=by have hk:=h.step (v:=undef) (w':=w) hd hr ho (fun _ ht=>(dstIn_spec hD ho ht).2) hS hv' hC;refine⟨?_⟩;unfold wpOp;simp only[ho];rw[if_neg (by rw[wanted_of hg hj htj hv,hcb];simp)];exact hk
theorem GJ.nou{P:Program}{Q:Exit→Act→World→Prop}{i j tj:Nat}{b:Bool}{o oj:Oper}(h:GJ ops S C a0 listed a w)(hd:dstOnce ops=true)(hr:i∈Region.ready .any ops listed)(ho:ops[i]?=some o)(D:List Nat)(hD:dstIn ops D a0.tmps.size=true)(hg:o.guard=some (j,b))(hj:ops[j]?=some oj)(htj:oj.dst=some tj)(hv:a.tmps.getD tj undef=undef)(hS:∀k v,k≠i→up listed k→S listed k v w→S (listed.setIfInBounds i true) k v w)(hv':∀t,o.dst=some t→S (listed.setIfInBounds i true) i undef w)(hC:C (listed.setIfInBounds i true) (fun t=>(a.put o.dst undef).tmps.getD t undef) w):OpOut P ops Q i (GJ ops S C a0 (listed.setIfInBounds i true)) a w:=by have hk:=h.step (v:=undef) (w':=w) hd hr ho (fun _ ht=>(dstIn_spec hD ho ht).2) hS hv' hC;refine⟨?_⟩;unfold wpOp;simp only[ho];rw[if_neg (by rw[wanted_undef hg hj htj hv];simp)];exact hk
end
theorem GJ.change{ops:Array Oper}{S S2:Array Bool→Nat→Value→World→Prop}{C C2:Array Bool→(Nat→Value)→World→Prop}{a0 a:Act}{listed:Array Bool}{w:World}(h:GJ ops S C a0 listed a w)(hC:C2 listed (fun t=>a.tmps.getD t undef) w)(hS:∀(k:Nat)(o:Oper)(t:Nat),ops[k]?=some o→o.dst=some t→up listed k→S2 listed k (a.tmps.getD t undef) w):GJ ops S2 C2 a0 listed a w:=⟨hC,h.defers,h.size,h.lsize,h.closed,h.old,hS⟩
structure KS(S:Nat→Prop)where
 F:Value→World→Prop
 st:∀v w w',Fx S w w'→F v w→F v w'
def KS.eq{S:Nat→Prop}(u:Value):KS S:=⟨fun v _=>v=u,fun _ _ _ _ h=>h⟩
def KS.any{S:Nat→Prop}:KS S:=⟨fun _ _=>True,fun _ _ _ _ h=>h⟩
def KS.blk{S:Nat→Prop}(B:Nat)(cs:Array Value)(t:TypeId)(hS:∀b,S b→b<B):KS S:=⟨fun v w=>∃g,B≤g∧v=.slice (some ⟨g,0,none⟩) 1 1∧Box w g cs t,fun _ _ _ hf⟨g,h1,h2,h3⟩=>⟨g,h1,h2,h3.fx hf (fun e=>by have:=hS g e;omega)⟩⟩
def KS.cl{S:Nat→Prop}(B:Nat)(P:Cl→Prop)(hS:∀b,S b→b<B):KS S:=⟨fun v w=>∃c,P c∧IsC (fun b=>B≤b) w v c,fun _ _ _ hf⟨c,hp,h⟩=>⟨c,hp,h.fx hf (fun b hb _ e=>by have:=hS b e;omega)⟩⟩
abbrev SKS{S:Nat→Prop}(K:Nat→KS S):Array Bool→Nat→Value→World→Prop:=fun _ k v w=>(K k).F v w
theorem step_appC{w:World}{ops:Array Oper}{o:Oper}{tm:Array Value}{df:List Deferred}{K:Act→World→Prop}{Q:Exit→Act→World→Prop}{E:Prop}(hg:o.guard=none)(s x:Operand)(t:TypeId)(ho:o.op=.call {callee:=.builtin .append,args:=#[s,x],argTypes:=#[t,t]})(base:Nat)(e:TypeId)(k bytes:Nat)(z:Value)(ht:Tryz.prog.underlying t=some (.slice e))(hi:(Tryz.prog.info? e).map (fun i=>(i.zero,i.size,i.bytes))=some (some z,k,bytes))(hzs:z.cells.size=k)(hk:0<k)(hby:bytes≤1000)(v:Value)(rows:List (List Value))(row:List Value)(hs:(⟨tm,df⟩:Act).eval s=v)(hown:OwnC w base e k v rows)(hrow:row.length=k)(h1:∀u∈row,u.oneCell'=true)(ad:Addr)(c:Nat)(hx:(⟨tm,df⟩:Act).eval x=.slice (some ad) 1 c)(hnews:∀j u,row[j]?=some u→w.cell? (ad.add j)=some u)(hl:rows.length≤1000000)(hbase:base≤w.heap.size)(hK:∀v' w',OwnC w' base e k v' (rows++[row])→Fx (fun b=>some b=v.ownBlock) w w'→(v'.ownBlock=v.ownBlock∨v'.ownBlock=some w.heap.size)→K ((⟨tm,df⟩:Act).put o.dst v') w'):if Region.wanted o (yielded ops tm)=true then o.wp Tryz.prog ⟨tm,df⟩ w K Q else E:=by(have hw:Region.wanted o (yielded ops tm)=true:=by simp[Region.wanted,hg]);rw[if_pos hw];obtain⟨v',w',hr,h2,h3,h4⟩:=run_appC w base t o.type e k bytes z ht hi hzs hk hby v rows row hown hrow h1 ad c hnews hl hbase;unfold Oper.wp execOp;simp only[ho,resolve,invoke,builtin,Sem.run_bind,Sem.run_pure,Result.andThen_ok,List.map_toArray,List.map_cons,List.map_nil,hs,hx,hr];exact hK v' w' h2 h3 h4
theorem wpList_appC{w:World}{ops:Array Oper}{rest:List Oper}{o:Oper}{a:Act}{Q:Exit→Act→World→Prop}(hgd:o.guard=none)(s x:Operand)(t:TypeId)(ho:o.op=.call {callee:=.builtin .append,args:=#[s,x],argTypes:=#[t,t]})(base:Nat)(e:TypeId)(k bytes:Nat)(z:Value)(ht:Tryz.prog.underlying t=some (.slice e))(hi:(Tryz.prog.info? e).map (fun i=>(i.zero,i.size,i.bytes))=some (some z,k,bytes))(hzs:z.cells.size=k)(hk:0<k)(hby:bytes≤1000)(v:Value)(rows:List (List Value))(row:List Value)(hs:a.eval s=v)(hown:OwnC w base e k v rows)(hrow:row.length=k)(h1:∀u∈row,u.oneCell'=true)(ad:Addr)(c:Nat)(hx:a.eval x=.slice (some ad) 1 c)(hnews:∀j u,row[j]?=some u→w.cell? (ad.add j)=some u)(hl:rows.length≤1000000)(hbase:base≤w.heap.size)(h:∀v' w',OwnC w' base e k v' (rows++[row])→Fx (fun b=>some b=v.ownBlock) w w'→(v'.ownBlock=v.ownBlock∨v'.ownBlock=some w.heap.size)→wpList Tryz.prog ops Q rest (a.put o.dst v') w'):wpList Tryz.prog ops Q (o::rest) a w:=by refine wpList_plain hgd fun K hK=>?_;obtain⟨v',w',hr,h2,h3,h4⟩:=run_appC w base t o.type e k bytes z ht hi hzs hk hby v rows row hown hrow h1 ad c hnews hl hbase;unfold Oper.wp execOp;simp only[ho,resolve,invoke,builtin,Sem.run_bind,Sem.run_pure,Result.andThen_ok,List.map_toArray,List.map_cons,List.map_nil,hs,hx,hr];exact hK _ _ (h v' w' h2 h3 h4)
theorem Box.news{w:World}{b:Nat}{row:List Value}{t:TypeId}(h:Box w b row.toArray t):∀j u,row[j]?=some u→w.cell? ((⟨b,0,none⟩:Addr).add j)=some u:=by intro j u hj;rw[add_off,Nat.zero_add,h.cell j];simpa using hj
theorem OwnN.snoc{w w':World}{base:Nat}{v v':Value}{l:List (List UInt8)}{n:List UInt8}(h:OwnN w base v l)(hn:n.length≤9223372036854775807)(h':OwnC w' base 9 1 v' (l.map (fun n=>[Value.string (bs n)])++[[Value.string (bs n)]])):OwnN w' base v' (l++[n]):=⟨fun m hm=>by rcases List.mem_append.1 hm with h1|h1;(·exact h.1 m h1);·rw[List.mem_singleton.1 h1];exact hn,by rw[List.map_append];exact h'⟩
theorem haveF_yes{s:List UInt8}{t:Tok}{r:List Tok}(h:(t.text==s)=true):haveF s (t::r)=(true,r):=if_pos h
theorem haveF_no{s:List UInt8}{t:Tok}{r:List Tok}(h:(t.text==s)=false):haveF s (t::r)=(false,t::r):=if_neg (by rw[h];simp)
theorem moreP_one(t:Tok):moreP [t]=if t.text==sComma then .error []else .ok ([],[t]):=rfl
theorem moreP_have(r:List Tok):moreP r=if(haveF sComma r).1 then(andP (nameP (haveF sComma r).2) fun n r=>andP (moreP r) fun l r=>.ok (n::l,r))else .ok ([],r):=by
 match r with
  |[]=>rfl
  |[t]=>
   rw[moreP_one]
   cases h:(t.text==sComma)with
   |false=>rw[haveF_no h];rfl
   |true=>rw[haveF_yes h];rfl
  |t::t2::r=>
   rw[moreP_at]
   cases h:(t.text==sComma)with
   |false=>rw[haveF_no h];rfl
   |true=>rw[haveF_yes h];unfold nameP;simp only[if_true];rw[nextP_at];cases hn:namedT t2<;>rfl
def rdV(v:Value):Option (DataW Value×List MemPlace):=some (.held v,[])
theorem In64.zero:In64 0:=⟨by omega,by omega⟩
def known(f:List UInt8→Option (Nat×Nat))(t:Tok):Bool:=(f t.text).isSome
def DR(base:Nat)(v:Value)(b:Nat):Prop:=base≤b∧¬some b=v.ownBlock
theorem OwnC.pos{w:World}{base:Nat}{e:TypeId}{k:Nat}{v:Value}{rows:List (List Value)}(h:OwnC w base e k v rows)(h0:0<rows.length):∃g cap,v=.slice (some ⟨g,0,none⟩) rows.length cap∧v.ownBlock=some g∧base≤g∧g<w.heap.size∧rows.length≤cap∧cap≤9223372036854775807∧(∀i,w.frozen? ⟨g,i,none⟩=false)∧∀i,i<rows.length→∀j,j<k→w.cell? ⟨g,i*k+j,none⟩=some ((rows.getD i []).getD j undef):=by have hs:=h.slh;rcases h.2.2 with⟨_,e'⟩|⟨g,cap,cur,e',hge,hg,h3,h4,_,_⟩;(·omega);·subst e';have hb:Box w g cur e:=hg;obtain⟨b,off,cap',e1,_,_,_,_,hc⟩:=hs.at_ h0;injection e1 with e1 _ e3;injection e1 with e1;injection e1 with e1 e2;subst e1 e2;refine⟨g,cap,rfl,rfl,hge,hb.lt,h3,by simpa[maxLen]using h4,hb.frozen,fun i hi j hj=>?_⟩;have:=hc i hi j hj;rw[Nat.zero_add]at this;exact this
theorem OwnCl.grow{w:World}{D:Nat→Prop}{base g cap:Nat}{us:List (Value×Value)}{l:List Cl}{cl:Cl}{vn vi z0 z1 z2 z3 z4 z5 z6 z7:Value}(hn:OwnC w base 66 8 (.slice (some ⟨g,0,none⟩) (l.length+1) cap) (rowsOf us l++[[z0,z1,z2,z3,z4,z5,z6,z7]]))(hl:HasL D w us l)(hc:HasC D w vn vi cl)(hd:∀b,D b→base≤b∧¬b=g):OwnCl (DR base (.slice (some ⟨g,0,none⟩) (l.length+1) cap)) ((((((((w.setCell ⟨g,l.length*8,none⟩ (.int .u8 (cl.kind:Int))).setCell ⟨g,l.length*8+1,none⟩ vn).setCell ⟨g,l.length*8+2,none⟩ (.int .u8 (cl.dom:Int))).setCell ⟨g,l.length*8+3,none⟩ (.int .i64 cl.idx)).setCell ⟨g,l.length*8+4,none⟩ (.int .i64 cl.a)).setCell ⟨g,l.length*8+5,none⟩ (.int .i64 cl.b)).setCell ⟨g,l.length*8+6,none⟩ vi).setCell ⟨g,l.length*8+7,none⟩ (.int .i64 cl.off)) base (.slice (some ⟨g,0,none⟩) (l.length+1) cap) (l++[cl]):=by have hu:=hl.len;have hput:=hn.put8 (g:=g) (a0:=.int .u8 (cl.kind:Int)) (a1:=vn) (a2:=.int .u8 (cl.dom:Int)) (a3:=.int .i64 cl.idx) (a4:=.int .i64 cl.a) (a5:=.int .i64 cl.b) (a6:=vi) (a7:=.int .i64 cl.off) rfl;rw[rowsOf_len hu]at hput;have hf2:=fx_set8 w g (l.length*8) (.int .u8 (cl.kind:Int)) vn (.int .u8 (cl.dom:Int)) (.int .i64 cl.idx) (.int .i64 cl.a) (.int .i64 cl.b) vi (.int .i64 cl.off);refine⟨us++[(vn,vi)],?_,?_⟩;(·rw[rowsOf_snoc hu];exact hput);·exact HasL.mono (D:=D) (fun b hb _=>⟨(hd b hb).1,fun e=>(hd b hb).2 (by simpa[Value.ownBlock]using e)⟩) _ (HasL.snoc (HasL.fx hf2 (fun b hb _=>(hd b hb).2) l hl) (HasC.fx hf2 (fun b hb _=>(hd b hb).2) cl hc))
def CD(W1:World)(i8 i9 base g cap:Nat)(us:List (Value×Value))(nl:List Cl)(z:List Value)(cl:Cl)(c:Nat)(cs cs':Array Value)(ty:TypeId)(l:Array Bool)(_:Nat→Value)(w:World):Prop:=Fx (fun b=>b=g∨b=c) W1 w∧(¬up l i8→OwnC w base 66 8 (.slice (some ⟨g,0,none⟩) (nl.length+1) cap) (rowsOf us nl++[z]))∧(up l i8→OwnCl (DR base (.slice (some ⟨g,0,none⟩) (nl.length+1) cap)) w base (.slice (some ⟨g,0,none⟩) (nl.length+1) cap) (nl++[cl]))∧(¬up l i9→Box w c cs ty)∧(up l i9→Box w c cs' ty)
section
variable{W1:World}{i8 i9 base g cap c i:Nat}{us:List (Value×Value)}{nl:List Cl}{z:List Value}{cl:Cl}{cs cs':Array Value}{ty:TypeId}{l:Array Bool}{f h:Nat→Value}{w w':World}
theorem CD.start(h8:¬up l i8)(h9:¬up l i9)(h1:OwnC W1 base 66 8 (.slice (some ⟨g,0,none⟩) (nl.length+1) cap) (rowsOf us nl++[z]))(h2:Box W1 c cs ty):CD W1 i8 i9 base g cap us nl z cl c cs cs' ty l f W1:=⟨Fx.refl _ _,fun _=>h1,fun u=>absurd u h8,fun _=>h2,fun u=>absurd u h9⟩
theorem CD.keep(hc:CD W1 i8 i9 base g cap us nl z cl c cs cs' ty l f w)(h8:i8≠i)(h9:i9≠i):CD W1 i8 i9 base g cap us nl z cl c cs cs' ty (l.setIfInBounds i true) h w:=by obtain⟨a1,a2,a3,a4,a5⟩:=hc;exact⟨a1,fun u=>a2 (fun u'=>u (up_keep u')),fun u=>a3 (up_set u h8),fun u=>a4 (fun u'=>u (up_keep u')),fun u=>a5 (up_set u h9)⟩
theorem CD.elem{vn vi z0 z1 z2 z3 z4 z5 z6 z7:Value}{D:Nat→Prop}(hc:CD W1 i8 i9 base g cap us nl [z0,z1,z2,z3,z4,z5,z6,z7] cl c cs cs' ty l f w)(hn:¬up l i8)(hl:i8<l.size)(h89:i9≠i8)(hL:HasL D W1 us nl)(hC:HasC D W1 vn vi cl)(hd:∀b,D b→base≤b∧¬b=g)(hcb:c<base)(hgb:base≤g):CD W1 i8 i9 base g cap us nl [z0,z1,z2,z3,z4,z5,z6,z7] cl c cs cs' ty (l.setIfInBounds i8 true) h ((((((((w.setCell ⟨g,nl.length*8,none⟩ (.int .u8 (cl.kind:Int))).setCell ⟨g,nl.length*8+1,none⟩ vn).setCell ⟨g,nl.length*8+2,none⟩ (.int .u8 (cl.dom:Int))).setCell ⟨g,nl.length*8+3,none⟩ (.int .i64 cl.idx)).setCell ⟨g,nl.length*8+4,none⟩ (.int .i64 cl.a)).setCell ⟨g,nl.length*8+5,none⟩ (.int .i64 cl.b)).setCell ⟨g,nl.length*8+6,none⟩ vi).setCell ⟨g,nl.length*8+7,none⟩ (.int .i64 cl.off)):=by obtain⟨a1,a2,a3,a4,a5⟩:=hc;have hf2:=fx_set8 w g (nl.length*8) (.int .u8 (cl.kind:Int)) vn (.int .u8 (cl.dom:Int)) (.int .i64 cl.idx) (.int .i64 cl.a) (.int .i64 cl.b) vi (.int .i64 cl.off);(have hdd:∀b,D b→b<W1.heap.size→¬(b=g∨b=c):=fun b hb _ e=>by have:=hd b hb;rcases e with e|e<;>omega);refine⟨a1.trans (hf2.mono (fun b e=>.inl e)),fun u=>absurd (up_self hl) u,fun _=>OwnCl.grow (a2 hn) (HasL.fx a1 hdd nl hL) (HasC.fx a1 hdd cl hC) hd,fun u=>(a4 (fun u'=>u (up_keep u'))).fx hf2 (fun e=>by omega),fun u=>(a5 (up_set u h89)).fx hf2 (fun e=>by omega)⟩
theorem CD.var{j:Nat}{u:Value}(hc:CD W1 i8 i9 base g cap us nl z cl c cs cs' ty l f w)(hn:¬up l i9)(hl:i9<l.size)(h89:i8≠i9)(hcs:cs.setIfInBounds j u=cs')(hcb:c<base):CD W1 i8 i9 base g cap us nl z cl c cs cs' ty (l.setIfInBounds i9 true) h (w.setCell ⟨c,j,none⟩ u):=by obtain⟨a1,a2,a3,a4,a5⟩:=hc;have hf2:=Fx.set w c j u;refine⟨a1.trans (hf2.mono (fun b e=>.inr e)),fun u'=>(a2 (fun u''=>u' (up_keep u''))).fx hf2 (fun b e hb=>by have:=hb.1;omega),fun u'=>(a3 (up_set u' h89)).fx hf2 (fun b e hb=>by have:=hb.1;omega) (fun b hb _ e=>by have:=hb.1;omega),fun u'=>absurd (up_self hl) u',fun _=>?_⟩;rw[←hcs];exact(a4 hn).set j u
end
def itemsA(ts:List Tok):PR (List Cl):=itemsP (ts.length+1) ts
theorem itemsA_have(ts:List Tok):itemsA ts=if(haveF sClose ts).1 then .ok ([],(haveF sClose ts).2)else andP (itemP ts) fun c r=>andP (itemsA r) fun l r=>.ok (c::l,r):=by
 unfold itemsA
 cases ts with
 |nil=>rfl
 |cons t r=>
  rw[itemsP_at]
  cases ht:(t.text==sClose)with
  |true=>rw[haveF_yes ht];rfl
  |false=>rw[haveF_no ht];simp only[Bool.false_eq_true,if_false];rcases hi:itemP (t::r)with e|⟨c,r'⟩;(·rfl);·simp only[andP];have:=itemP_len hi;rw[itemsP_fuel (t::r).length r' (by omega)]
end Go.Proofs.YtikepaanbnfpcaaGreatDoor
namespace Go.Proofs.YtikepaanbnfpcaaGreatDoor
structure Srv where
 cores:Int
 replicas:Int
 least:Int
 dom:Nat
 spread:Int
 apart:List Int
 near:List (Int×Int)
 firmware:Int deriving DecidableEq
def srv0:Srv:=⟨0,0,0,0,0,[],[],0⟩
structure Itn where
 names:List (List UInt8)
 svcs:List Srv
 wins:List (Nat×Int×Int×Int)
 apps:List (Nat×Int)
 blast:Int
 caps:List (Int×Int)deriving DecidableEq
def itn0:Itn:=⟨[],[],[],[],0,[]⟩
structure Sit where
 feeds:List Int
 racks:List Int
 hosts:Nat
 loops:Nat
abbrev Er:=Int×Nat
def andE{α β:Type}(x:Except Er α)(f:α→Except Er β):Except Er β:=match x with|.ok a=>f a|.error e=>.error e
def need(b:Bool)(e:Nat)(o:Int):Except Er Unit:=if b=true then .ok ()else .error (o,e)
def thereF(s:Sit)(d:Nat)(i:Int):Bool:=if i<0 then false else if d=1 then decide (i<(s.hosts:Int))else if d=2 then decide (i<(s.racks.length:Int))else if d=4 then decide (i<(s.feeds.length:Int))else if d=5 then decide (i<(s.loops:Int))else decide (d=3)&&s.racks.contains i
def namesCk:List Cl→List (List UInt8)→Except Er (List (List UInt8))|[],ns=>.ok ns|c::l,ns=>if c.kind=1 then andE (need (decide (ns.length<8)) 3 c.off) fun _=>andE (need (!ns.contains (c.names.headD [])) 6 c.off) fun _=>namesCk l (ns++[c.names.headD []])else namesCk l ns
def otherCk(ns:List (List UInt8))(own:Int)(n:List UInt8)(o:Int):Except Er Int:=andE (need (decide (0≤idxZ ns n)) 7 o) fun _=>andE (need (decide (idxZ ns n≠own)) 1 o) fun _=>.ok (idxZ ns n)
def insI(l:List Int)(x:Int):List Int:=l.filter (fun y=>decide (y<x))++x::l.filter (fun y=>!decide (y<x))
def apartCk(ns:List (List UInt8))(own o:Int):List (List UInt8)→List Int→Except Er (List Int)|[],l=>.ok l|n::r,l=>andE (otherCk ns own n o) fun i=>andE (need (!l.contains i) 6 o) fun _=>apartCk ns own o r (insI l i)
def insP(l:List (Int×Int))(x:Int×Int):List (Int×Int):=l.filter (fun y=>decide (y.1<x.1))++x::l.filter (fun y=>!decide (y.1<x.1))
def nearCk(ns:List (List UInt8))(own:Int)(c:Cl)(l:List (Int×Int)):Except Er (List (Int×Int)):=andE (otherCk ns own (c.names.headD []) c.off) fun i=>andE (need (!l.any fun p=>p.1==i) 6 c.off) fun _=>andE (need (decide (c.a≤1000000)) 2 c.off) fun _=>.ok (insP l (i,c.a))
def fromTo(c:Cl)(lo hi:Int):Except Er Unit:=need (decide (lo≤c.a∧c.a≤hi)) 2 c.off
def itemCk(ns:List (List UInt8))(own:Int)(s:Srv)(c:Cl):Except Er Srv:=if c.kind=6 then andE (fromTo c 1 1000) fun _=>.ok {s with cores:=c.a}else if c.kind=7 then andE (fromTo c 0 24) fun _=>.ok {s with replicas:=c.a}else if c.kind=8 then andE (fromTo c 0 1000000) fun _=>.ok {s with least:=c.a}else if c.kind=12 then andE (fromTo c 0 1000000) fun _=>.ok {s with firmware:=c.a}else if c.kind=9 then andE (fromTo c 1 24) fun _=>.ok {s with dom:=c.dom,spread:=c.a}else if c.kind=10 then andE (apartCk ns own c.off c.names s.apart) fun l=>.ok {s with apart:=l}else andE (nearCk ns own c s.near) fun l=>.ok {s with near:=l}
def itemsCk(ns:List (List UInt8))(own:Int):List Nat→Srv→List Cl→Except Er Srv|_,s,[]=>.ok s|seen,s,c::r=>andE (need (!(seen.contains c.kind&&!(c.kind==10||c.kind==11))) 6 c.off) fun _=>andE (itemCk ns own s c) fun s'=>itemsCk ns own (c.kind::seen) s' r
def serviceCk(ns:List (List UInt8))(own reps:Int)(c:Cl):Except Er (Srv×Int):=andE (itemsCk ns own [] srv0 c.items) fun s=>andE (need (c.items.any (fun i=>i.kind==6)&&c.items.any (fun i=>i.kind==7)) 7 c.off) fun _=>andE (need (decide (s.least≤s.replicas)) 2 c.off) fun _=>andE (need (decide (reps+s.replicas≤24)) 3 c.off) fun _=>.ok (s,reps+s.replicas)
def policyCk(t:Sit)(x:Itn)(c:Cl):Except Er Itn:=if c.kind=2 then andE (need (decide (x.wins.length<16)) 3 c.off) fun _=>andE (need (thereF t c.dom c.idx) 7 c.off) fun _=>andE (need (decide (c.a<c.b∧c.b≤1000000)) 2 c.off) fun _=>.ok {x with wins:=x.wins++[(c.dom,c.idx,c.a,c.b)]}else if c.kind=3 then andE (need (thereF t c.dom c.idx) 7 c.off) fun _=>andE (need (!x.apps.contains (c.dom,c.idx)) 6 c.off) fun _=>.ok {x with apps:=x.apps++[(c.dom,c.idx)]}else if c.kind=4 then andE (need (decide (x.blast=0)) 6 c.off) fun _=>andE (fromTo c 1 16) fun _=>.ok {x with blast:=c.a}else andE (need (thereF t 4 c.idx) 7 c.off) fun _=>andE (need (!x.caps.any fun p=>p.1==c.idx) 6 c.off) fun _=>andE (need (decide (c.a≤t.feeds.getD c.idx.toNat 0)) 2 c.off) fun _=>.ok {x with caps:=x.caps++[(c.idx,c.a)]}
def oneCk(t:Sit)(st:Itn×Int)(c:Cl):Except Er (Itn×Int):=if c.kind=1 then andE (serviceCk st.1.names (st.1.svcs.length:Int) st.2 c) fun r=>.ok ({st.1 with svcs:=st.1.svcs++[r.1]},r.2)else andE (policyCk t st.1 c) fun x=>.ok (x,st.2)
def allCk(t:Sit):List Cl→Itn×Int→Except Er (Itn×Int)|[],st=>.ok st|c::l,st=>andE (oneCk t st c) fun st'=>allCk t l st'
def treeCk(t:Sit)(l:List Cl):Except Er (Itn×Int):=andE (namesCk l []) fun ns=>allCk t l ({itn0 with names:=ns},0)
open Classical in noncomputable def checkF(t:Sit)(l:List Cl):Itn×Int×Nat:=if∀c∈l,formT c then match treeCk t l with|.ok st=>(st.1,0,0)|.error e=>(itn0,e.1,e.2)else(itn0,0,1)
def okIdx(n:Nat)(i:Int):Bool:=decide (0≤i)&&decide (i<(n:Int))
def nameAt(ns:List (List UInt8))(i:Int):List UInt8:=ns.getD i.toNat []
def numI(k:Nat)(a:Int):Cl:=.mk k [] 0 0 a 0 [] 0
def itemsOf(ns:List (List UInt8))(s:Srv):List Cl:=[numI 6 s.cores,numI 7 s.replicas]++((if s.least≠0 then[numI 8 s.least]else[])++((if s.dom≠0 then[Cl.mk 9 [] s.dom 0 s.spread 0 [] 0]else[])++((if s.apart≠[]then[Cl.mk 10 (s.apart.map (nameAt ns)) 0 0 0 0 [] 0]else[])++(s.near.map (fun p=>Cl.mk 11 [nameAt ns p.1] 0 0 p.2 0 [] 0)++(if s.firmware≠0 then[numI 12 s.firmware]else[])))))
def srvOk(n:Nat)(s:Srv):Bool:=s.apart.all (okIdx n)&&s.near.all fun p=>okIdx n p.1
def srvCl(ns:List (List UInt8))(own:Nat)(s:Srv):Cl:=.mk 1 [ns.getD own []] 0 0 0 0 (itemsOf ns s) 0
def srvsCl(ns:List (List UInt8))(own:Nat):List Srv→List Cl|[]=>[]|s::l=>srvCl ns own s::srvsCl ns (own+1) l
def polCl(x:Itn):List Cl:=x.wins.map (fun p=>Cl.mk 2 [] p.1 p.2.1 p.2.2.1 p.2.2.2 [] 0)++(x.apps.map (fun p=>Cl.mk 3 [] p.1 p.2 0 0 [] 0)++((if x.blast≠0 then[numI 4 x.blast]else[])++x.caps.map fun p=>Cl.mk 5 [] 0 p.1 p.2 0 [] 0))
def backF(x:Itn):List Cl:=srvsCl x.names 0 x.svcs++polCl x
open Classical in noncomputable def clausesF(x:Itn):List Cl×Nat:=if x.names.length=x.svcs.length∧x.svcs.all (srvOk x.names.length)=true∧∀c∈backF x,formT c then(backF x,0)else([],1)
open Classical in noncomputable def validF(x:Itn)(t:Sit):Bool:=decide ((clausesF x).2=0∧checkF t (clausesF x).1=(x,0,0))
def limF(caps:List (Int×Int))(i:Nat)(x:Int):Int:=caps.foldl (fun m p=>if p.1=(i:Int)then min m p.2 else m) x
def limsF(caps:List (Int×Int))(feeds:List Int):List Int:=(List.range feeds.length).map fun i=>limF caps i (feeds.getD i 0)
end Go.Proofs.YtikepaanbnfpcaaGreatDoor
namespace Go.Proofs.YtikepaanbnfpcaaGreatDoor
open Go.RowKit Go.Shelf
def SlR(D:Nat→Prop)(w:World)(v:Value)(k:Nat)(rows:List (List Value)):Prop:=SlH D w v rows.length k (fun i j=>(rows.getD i []).getD j undef)
section
variable{D D' S:Nat→Prop}{w W:World}{v:Value}{k:Nat}{rows:List (List Value)}
theorem SlR.fx(h:SlR D w v k rows)(hf:Fx S w W)(hd:∀b,D b→b<w.heap.size→¬S b):SlR D W v k rows:=SlH.fx h hf hd
theorem SlR.after(h:SlR D w v k rows)(hb:Below w.heap.size w W):SlR D W v k rows:=SlH.after h hb
theorem SlR.mono(h:SlR D w v k rows)(hd:∀b,D b→b<w.heap.size→D' b):SlR D' w v k rows:=SlH.mono h hd
theorem SlR.nil(D:Nat→Prop)(w:World)(k:Nat):SlR D w (.slice none 0 0) k []:=SlH.nil D w k _
theorem SlR.shape(h:SlR D w v k rows):∃p c,v=.slice p rows.length c∧rows.length≤c∧c≤9223372036854775807∧(p=none→c=0):=SlH.shape h
theorem OwnC.slR{base:Nat}{e:TypeId}(h:OwnC w base e k v rows):SlR (ofRow base v) w v k rows:=h.slh
end
def intR(l:List Int):List (List Value):=l.map fun i=>[.int .i64 i]
def pairR(l:List (Int×Int)):List (List Value):=l.map fun p=>[.int .i64 p.1,.int .i64 p.2]
def winR(l:List (Nat×Int×Int×Int)):List (List Value):=l.map fun p=>[.int .u8 (p.1:Int),.int .i64 p.2.1,.int .i64 p.2.2.1,.int .i64 p.2.2.2]
def areaR(l:List (Nat×Int)):List (List Value):=l.map fun p=>[.int .u8 (p.1:Int),.int .i64 p.2]
theorem SlR.at_{D:Nat→Prop}{w:World}{v:Value}{k:Nat}{α:Type}{f:α→List Value}{l:List α}(d:α)(h:SlR D w v k (l.map f))(h0:0<l.length):∃b off cap,v=.slice (some ⟨b,off,none⟩) l.length cap∧l.length≤cap∧cap≤9223372036854775807∧D b∧b<w.heap.size∧∀i,i<l.length→∀j,j<k→w.cell? ⟨b,off+i*k+j,none⟩=some ((f (l.getD i d)).getD j undef):=by have hl:(l.map f).length=l.length:=List.length_map ..;obtain⟨b,off,cap,e1,e2,e3,e4,e5,e6⟩:=SlH.at_ h (by rw[hl];exact h0);rw[hl]at e1 e2 e6;refine⟨b,off,cap,e1,e2,e3,e4,e5,fun i hi j hj=>?_⟩;rw[e6 i hi j hj];simp only[List.getD_eq_getElem?_getD,List.getElem?_map,List.getElem?_eq_getElem hi,Option.map_some,Option.getD_some]
theorem SlR.shapeM{D:Nat→Prop}{w:World}{v:Value}{k:Nat}{α:Type}{f:α→List Value}{l:List α}(h:SlR D w v k (l.map f)):∃p c,v=.slice p l.length c∧l.length≤c∧c≤9223372036854775807∧(p=none→c=0):=by have:=h.shape;rwa[List.length_map]at this
def srvV(s:Srv)(va vn:Value):List Value:=[.int .i64 s.cores,.int .i64 s.replicas,.int .i64 s.least,.int .u8 (s.dom:Int),.int .i64 s.spread,va,vn,.int .i64 s.firmware]
def numsS(s:Srv):Prop:=In64 s.cores∧In64 s.replicas∧In64 s.least∧s.dom<256∧In64 s.spread∧In64 s.firmware∧(∀i∈s.apart,In64 i)∧∀p∈s.near,In64 p.1∧In64 p.2
structure HasS(D:Nat→Prop)(w:World)(va vn:Value)(s:Srv):Prop where
 apart:SlR D w va 1 (intR s.apart)
 near:SlR D w vn 2 (pairR s.near)
def HasSL(D:Nat→Prop)(w:World):List (Value×Value)→List Srv→Prop|[],[]=>True|u::us,s::l=>HasS D w u.1 u.2 s∧HasSL D w us l|_,_=>False
def srvsR(us:List (Value×Value))(l:List Srv):List (List Value):=(us.zip l).map fun p=>srvV p.2 p.1.1 p.1.2
def SlS(D:Nat→Prop)(w:World)(v:Value)(l:List Srv):Prop:=∃us:List (Value×Value),SlR D w v 8 (srvsR us l)∧HasSL D w us l
def OwnSv(D:Nat→Prop)(w:World)(base:Nat)(v:Value)(l:List Srv):Prop:=∃us:List (Value×Value),OwnC w base 77 8 v (srvsR us l)∧HasSL D w us l
section
variable{D D' S:Nat→Prop}{w W:World}{va vn v:Value}{s:Srv}{l:List Srv}
theorem HasS.fx(h:HasS D w va vn s)(hf:Fx S w W)(hd:∀b,D b→b<w.heap.size→¬S b):HasS D W va vn s:=⟨h.1.fx hf hd,h.2.fx hf hd⟩
theorem HasS.mono(h:HasS D w va vn s)(hd:∀b,D b→b<w.heap.size→D' b):HasS D' w va vn s:=⟨h.1.mono hd,h.2.mono hd⟩
theorem HasSL.fx(hf:Fx S w W)(hd:∀b,D b→b<w.heap.size→¬S b):∀{l:List Srv}{us:List (Value×Value)},HasSL D w us l→HasSL D W us l|[],[],_=>trivial|[],_::_,h=>h.elim|_::_,[],h=>h.elim|_::_,_::_,h=>⟨h.1.fx hf hd,HasSL.fx hf hd h.2⟩
theorem HasSL.mono(hd:∀b,D b→b<w.heap.size→D' b):∀{l:List Srv}{us:List (Value×Value)},HasSL D w us l→HasSL D' w us l|[],[],_=>trivial|[],_::_,h=>h.elim|_::_,[],h=>h.elim|_::_,_::_,h=>⟨h.1.mono hd,HasSL.mono hd h.2⟩
theorem HasSL.len:∀{l:List Srv}{us:List (Value×Value)},HasSL D w us l→us.length=l.length|[],[],_=>rfl|[],_::_,h=>h.elim|_::_,[],h=>h.elim|_::_,_::_,h=>congrArg (·+1) (HasSL.len h.2)
theorem HasSL.at_:∀{l:List Srv}{us:List (Value×Value)},HasSL D w us l→∀i,i<l.length→HasS D w (us.getD i uu).1 (us.getD i uu).2 (l.getD i srv0)|[],_,_,i,hi=>by cases hi|_::_,[],h,_,_=>h.elim|_::_,_::_,h,0,_=>h.1|_::_,_::_,h,i+1,hi=>HasSL.at_ h.2 i (Nat.lt_of_succ_lt_succ hi)
theorem HasSL.snoc:∀{l:List Srv}{us:List (Value×Value)},HasSL D w us l→∀{s:Srv}{u:Value×Value},HasS D w u.1 u.2 s→HasSL D w (us++[u]) (l++[s])|[],[],_,_,_,h=>⟨h,trivial⟩|[],_::_,h,_,_,_=>h.elim|_::_,[],h,_,_,_=>h.elim|_::_,_::_,h,_,_,k=>⟨h.1,HasSL.snoc h.2 k⟩
theorem srvsR_len{us:List (Value×Value)}(h:us.length=l.length):(srvsR us l).length=l.length:=by unfold srvsR;rw[List.length_map,List.length_zip,h];omega
theorem srvsR_snoc{us:List (Value×Value)}(h:us.length=l.length)(u:Value×Value)(s:Srv):srvsR (us++[u]) (l++[s])=srvsR us l++[srvV s u.1 u.2]:=by unfold srvsR;rw[List.zip_append h,List.map_append];rfl
theorem srvsR_get{us:List (Value×Value)}(h:us.length=l.length){i:Nat}(hi:i<l.length):(srvsR us l).getD i []=srvV (l.getD i srv0) (us.getD i uu).1 (us.getD i uu).2:=by(have h1:i<us.length:=by omega);(have h2:i<(srvsR us l).length:=by rw[srvsR_len h];exact hi);rw[List.getD_eq_getElem?_getD,List.getElem?_eq_getElem h2,List.getD_eq_getElem?_getD,List.getElem?_eq_getElem hi,List.getD_eq_getElem?_getD,List.getElem?_eq_getElem h1];simp[srvsR]
theorem SlS.fx(h:SlS D w v l)(hf:Fx S w W)(hd:∀b,D b→b<w.heap.size→¬S b):SlS D W v l:=by obtain⟨us,h1,h2⟩:=h;exact⟨us,h1.fx hf hd,HasSL.fx hf hd h2⟩
theorem SlS.after(h:SlS D w v l)(hb:Below w.heap.size w W):SlS D W v l:=h.fx (S:=fun _=>False) (Fx.of_below hb) (fun _ _ _ e=>e)
theorem SlS.mono(h:SlS D w v l)(hd:∀b,D b→b<w.heap.size→D' b):SlS D' w v l:=by obtain⟨us,h1,h2⟩:=h;exact⟨us,h1.mono hd,HasSL.mono hd h2⟩
theorem SlS.nil(D:Nat→Prop)(w:World):SlS D w (.slice none 0 0) []:=⟨[],SlR.nil D w 8,trivial⟩
theorem SlS.shape(h:SlS D w v l):∃p c,v=.slice p l.length c∧l.length≤c∧c≤9223372036854775807∧(p=none→c=0):=by obtain⟨us,h1,h2⟩:=h;have:=h1.shape;rwa[srvsR_len h2.len]at this
theorem SlS.at_(h:SlS D w v l)(h0:0<l.length):∃b off cap,v=.slice (some ⟨b,off,none⟩) l.length cap∧l.length≤cap∧cap≤9223372036854775807∧D b∧b<w.heap.size∧∀i,i<l.length→∃va vn,HasS D w va vn (l.getD i srv0)∧∀j,j<8→w.cell? ⟨b,off+i*8+j,none⟩=some ((srvV (l.getD i srv0) va vn).getD j undef):=by obtain⟨us,h1,h2⟩:=h;have hl:=srvsR_len h2.len;obtain⟨b,off,cap,e1,e2,e3,e4,e5,e6⟩:=SlH.at_ h1 (by rw[hl];exact h0);rw[hl]at e1 e2 e6;refine⟨b,off,cap,e1,e2,e3,e4,e5,fun i hi=>⟨_,_,h2.at_ i hi,fun j hj=>?_⟩⟩;rw[e6 i hi j hj];rw[srvsR_get h2.len hi]
theorem OwnSv.nil(D:Nat→Prop)(w:World)(base:Nat):OwnSv D w base (.slice none 0 0) []:=⟨[],OwnC.nil w base _ 8,trivial⟩
theorem OwnSv.slS{base:Nat}(h:OwnSv D w base v l):SlS (fun b=>ofRow base v b∨D b) w v l:=by obtain⟨us,h1,h2⟩:=h;exact⟨us,h1.slR.mono (fun b hb _=>.inl hb),HasSL.mono (fun b hb _=>.inr hb) h2⟩
theorem OwnSv.fx{base:Nat}(h:OwnSv D w base v l)(hf:Fx S w W)(hS:∀b,S b→¬ofRow base v b)(hd:∀b,D b→b<w.heap.size→¬S b):OwnSv D W base v l:=by obtain⟨us,h1,h2⟩:=h;exact⟨us,h1.fx hf hS,HasSL.fx hf hd h2⟩
theorem OwnSv.shape{base:Nat}(h:OwnSv D w base v l):∃p c,v=.slice p l.length c∧l.length≤c∧c≤9223372036854775807∧(p=none→c=0):=by obtain⟨us,h1,h2⟩:=h;have:=h1.shape;rwa[srvsR_len h2.len]at this
end
def rackR(l:List (Int×Int×Int×Int)):List (List Value):=l.map fun p=>[.int .i64 p.1,.int .i64 p.2.1,.int .i64 p.2.2.1,.int .i64 p.2.2.2]
structure HasT(D:Nat→Prop)(w:World)(pf:Option Addr)(cf:Nat)(pr:Option Addr)(cr:Nat)(t:Sit):Prop where
 feeds:SlR D w (.slice pf t.feeds.length cf) 1 (intR t.feeds)
 limits:∀x∈t.feeds,In64 x
 racks:∃rk:List (Int×Int×Int×Int),rk.map Prod.fst=t.racks∧SlR D w (.slice pr t.racks.length cr) 4 (rackR rk)
 hosts:t.hosts≤9223372036854775807
 loops:t.loops≤9223372036854775807
theorem HasT.fx{D S:Nat→Prop}{w W:World}{pf pr:Option Addr}{cf cr:Nat}{t:Sit}(h:HasT D w pf cf pr cr t)(hf:Fx S w W)(hd:∀b,D b→b<w.heap.size→¬S b):HasT D W pf cf pr cr t:=by obtain⟨h1,h2,⟨rk,h3,h4⟩,h5,h6⟩:=h;exact⟨h1.fx hf hd,h2,⟨rk,h3,h4.fx hf hd⟩,h5,h6⟩
theorem HasT.after{D:Nat→Prop}{w W:World}{pf pr:Option Addr}{cf cr:Nat}{t:Sit}(h:HasT D w pf cf pr cr t)(hb:Below w.heap.size w W):HasT D W pf cf pr cr t:=h.fx (S:=fun _=>False) (Fx.of_below hb) (fun _ _ _ e=>e)
theorem HasT.mono{D D':Nat→Prop}{w:World}{pf pr:Option Addr}{cf cr:Nat}{t:Sit}(h:HasT D w pf cf pr cr t)(hd:∀b,D b→b<w.heap.size→D' b):HasT D' w pf cf pr cr t:=by obtain⟨h1,h2,⟨rk,h3,h4⟩,h5,h6⟩:=h;exact⟨h1.mono hd,h2,⟨rk,h3,h4.mono hd⟩,h5,h6⟩
end Go.Proofs.YtikepaanbnfpcaaGreatDoor
