/- Parts of the proof: LexM, LexQ, Sy0, Sy1. -/
import Derived.Test.YtikepaanbnfpcaaGreatDoorK01
import Derived.Test.YtikepaanbnfpcaaGreatDoorProg
import Derived.WalkKit
import Derived.WalkLawsBesides
import Derived.WalkSpells
import Derived.Deep.OwnRows
import Derived.Deep.Draws
import Derived.Laws.IdiomStrings
import Derived.Test.YtikepaanbnfpcaaGreatDoorMac
set_option linter.unusedVariables false
set_option linter.unusedSimpArgs false
set_option maxRecDepth 100000
set_option maxHeartbeats 16000000
namespace Go.Proofs.YtikepaanbnfpcaaGreatDoor
open Go.RowKit
theorem ret_bool{a b:Bool}(h:a=b):Ending.returned (.bool a)=.returned (.bool b):=by rw[h]
theorem ret_str{a b:ByteArray}(h:a=b):Ending.returned (.string a)=.returned (.string b):=by rw[h]
theorem ret_int{k:IntKind}{a b:Int}(h:a=b):Ending.returned (.int k a)=.returned (.int k b):=by rw[h]
theorem below_drewN(w:World)(n B:Nat):Below B w (w.drewN n):=⟨rfl,rfl,rfl,Nat.le_refl _,fun _ _=>rfl⟩
theorem below_dr{B:Nat}{w W:World}(h:Below B w W):Below B w W.drew:=h.trans ⟨rfl,rfl,rfl,Nat.le_refl _,fun _ _=>rfl⟩
theorem held_alloc{B:Nat}{w W:World}{o:Obj}(h:Below B w W)(hB:B≤W.heap.size:=by omega):Below B w (W.alloc o):=h.alloc hB o
theorem keep_cell{W w1:World}(hb:Below W.heap.size W w1){b o:Nat}{v:Value}(h:W.cell? ⟨b,o,none⟩=some v):w1.cell? ⟨b,o,none⟩=some v:=(hb.cell (p:=⟨b,o,none⟩) (World.block_lt_of_cell? W _ h)).trans h
def Box(w:World)(b:Nat)(cs:Array Value)(t:TypeId):Prop:=w.heap[b]?=some (.cells cs t (0,0))
section
variable{w w':World}{b:Nat}{cs:Array Value}{t:TypeId}
theorem Box.new(w:World)(cs:Array Value)(t:TypeId):Box (w.alloc (.cells cs t)) w.heap.size cs t:=heap_alloc_new w _
theorem Box.lt(h:Box w b cs t):b<w.heap.size:=(Array.getElem?_eq_some_iff.1 h).1
theorem Box.after(h:Box w b cs t)(hb:Below w.heap.size w w'):Box w' b cs t:=(hb.block b h.lt).trans h
theorem Box.alloc(h:Box w b cs t)(o:Obj):Box (w.alloc o) b cs t:=(Below.heap_alloc w o b h.lt).trans h
theorem Box.cell(h:Box w b cs t)(i:Nat):w.cell? ⟨b,i,none⟩=cs[i]?:=cell_of_row w b i cs t (0,0) h
theorem Box.frozen(h:Box w b cs t)(i:Nat):w.frozen? ⟨b,i,none⟩=false:=by unfold Box at h;simp[World.frozen?,h]
theorem Box.set(h:Box w b cs t)(i:Nat)(u:Value):Box (w.setCell ⟨b,i,none⟩ u) b (cs.setIfInBounds i u) t:=by unfold Box at h⊢;simp[World.setCell,Array.getElem?_modify,h]
theorem Box.grown{row:Option Nat}(h:Box w b cs t)(hg:w.grownBy w' row)(hb:some b≠row):Box w' b cs t:=(hg.block b h.lt hb).trans h
theorem Box.cells4{x0 x1 x2 x3:Value}(h:Box w b #[x0,x1,x2,x3] t):w.cell? ⟨b,0,none⟩=some x0∧w.cell? ⟨b,1,none⟩=some x1∧w.cell? ⟨b,2,none⟩=some x2∧w.cell? ⟨b,3,none⟩=some x3:=⟨h.cell 0,h.cell 1,h.cell 2,h.cell 3⟩
end
theorem add_off(b off j:Nat):(⟨b,off,none⟩:Addr).add j=⟨b,off+j,none⟩:=by unfold Addr.add;split<;>simp_all
def In64(z:Int):Prop:=-9223372036854775808≤z∧z≤9223372036854775807
def TokOk(t:Tok):Prop:=t.kind<256∧In64 t.num∧In64 t.off∧t.text.length≤9223372036854775807
def cellsOf(t:Tok):List Value:=[.int .u8 (t.kind:Int),.string (bs t.text),.int .i64 t.num,.int .i64 t.off]
def cellsT(ts:List Tok):List Value:=ts.flatMap cellsOf
theorem cellsT_snoc(ts:List Tok)(t:Tok):cellsT (ts++[t])=cellsT ts++cellsOf t:=by unfold cellsT;rw[List.flatMap_append];simp
theorem cellsT_len:∀ts:List Tok,(cellsT ts).length=ts.length*4|[]=>rfl|t::ts=>by have:=cellsT_len ts;unfold cellsT at this⊢;rw[List.flatMap_cons,List.length_append,this];simp only[cellsOf,List.length_cons,List.length_nil];omega
theorem cellsT_get:∀(ts:List Tok)(i:Nat)(t:Tok),ts[i]?=some t→∀j,j<4→(cellsT ts)[i*4+j]?=(cellsOf t)[j]?|[],i,t,h,_,_=>by simp at h|x::ts,0,t,h,j,hj=>by(obtain rfl:x=t:=by simpa using h);unfold cellsT;rw[List.flatMap_cons,Nat.zero_mul,Nat.zero_add,List.getElem?_append_left (by simpa[cellsOf]using hj)]|x::ts,i+1,t,h,j,hj=>by have ih:=cellsT_get ts i t (by simpa using h) j hj;unfold cellsT at ih⊢;rw[List.flatMap_cons,List.getElem?_append_right (by simp[cellsOf];omega),←ih];congr 1;simp[cellsOf];omega
def tok(ts:List Tok)(i:Nat):Tok:=ts.getD i ⟨0,[],0,0⟩
theorem tok_get{ts:List Tok}{i:Nat}(h:i<ts.length):tok ts i=ts[i]:=by simp[tok,List.getD,h]
theorem tok_some{ts:List Tok}{i:Nat}(h:i<ts.length):ts[i]?=some (tok ts i):=by rw[tok_get h,List.getElem?_eq_getElem h]
def SlK(w:World)(v:Value)(ts:List Tok):Prop:=(∀t∈ts,TokOk t)∧∃(a:Option Addr)(cap:Nat),v=.slice a ts.length cap∧ts.length≤cap∧cap≤9223372036854775807∧(a=none→cap=0)∧(0<ts.length→∃b off,a=some ⟨b,off,none⟩∧b<w.heap.size∧∀i,i<ts.length→w.cell? ⟨b,off+i*4,none⟩=some (.int .u8 ((tok ts i).kind:Int))∧w.cell? ⟨b,off+i*4+1,none⟩=some (.string (bs (tok ts i).text))∧w.cell? ⟨b,off+i*4+2,none⟩=some (.int .i64 (tok ts i).num)∧w.cell? ⟨b,off+i*4+3,none⟩=some (.int .i64 (tok ts i).off))
section
variable{w w':World}{v:Value}{ts:List Tok}
theorem SlK.after(h:SlK w v ts)(hb:Below w.heap.size w w'):SlK w' v ts:=by obtain⟨h0,a,cap,h1,h2,h3,h5,h6⟩:=h;refine⟨h0,a,cap,h1,h2,h3,h5,fun hl=>?_⟩;obtain⟨b,off,ha,hlt,hc⟩:=h6 hl;refine⟨b,off,ha,Nat.lt_of_lt_of_le hlt hb.size,fun i hi=>?_⟩;obtain⟨c0,c1,c2,c3⟩:=hc i hi;exact⟨keep_cell hb c0,keep_cell hb c1,keep_cell hb c2,keep_cell hb c3⟩
theorem SlK.nil(w:World):SlK w (.slice none 0 0) []:=⟨fun t h=>by simp at h,none,0,rfl,by simp,by omega,fun _=>rfl,fun h=>by simp at h⟩
theorem SlK.shape(h:SlK w v ts):∃a cap,v=.slice a ts.length cap∧ts.length≤cap∧cap≤9223372036854775807∧(a=none→cap=0):=by obtain⟨_,a,cap,h1,h2,h3,h5,_⟩:=h;exact⟨a,cap,h1,h2,h3,h5⟩
theorem SlK.at_(h:SlK w v ts)(hp:0<ts.length):∃b off cap,v=.slice (some ⟨b,off,none⟩) ts.length cap∧ts.length≤cap∧cap≤9223372036854775807∧b<w.heap.size∧∀i,i<ts.length→w.cell? ⟨b,off+i*4,none⟩=some (.int .u8 ((tok ts i).kind:Int))∧w.cell? ⟨b,off+i*4+1,none⟩=some (.string (bs (tok ts i).text))∧w.cell? ⟨b,off+i*4+2,none⟩=some (.int .i64 (tok ts i).num)∧w.cell? ⟨b,off+i*4+3,none⟩=some (.int .i64 (tok ts i).off):=by obtain⟨_,a,cap,h1,h2,h3,h5,h6⟩:=h;obtain⟨b,off,ha,hlt,hc⟩:=h6 hp;exact⟨b,off,cap,by rw[h1,ha],h2,h3,hlt,hc⟩
theorem SlK.ok(h:SlK w v ts){i:Nat}(hi:i<ts.length):TokOk (tok ts i):=by rw[tok_get hi];exact h.1 _ (List.getElem_mem hi)
end
theorem grownBy_of_below{w w':World}(hb:Below w.heap.size w w'):w.grownBy w' none:=⟨hb.os,hb.tape,hb.output,hb.size,fun k hk _=>hb.block k hk⟩
theorem ownsRow_after{w w':World}{base n size:Nat}{t:TypeId}{v:Value}{xs:List Value}(h:w.ownsRow base t size v n xs)(hb:Below w.heap.size w w'):w'.ownsRow base t size v n xs:=h.kept (grownBy_of_below hb) (by cases hv:v.ownBlock<;>simp)
theorem ownsRow_shape{W:World}{base n size:Nat}{t:TypeId}{v:Value}{xs:List Value}(h:W.ownsRow base t size v n xs):∃p c,v=.slice p n c:=by rcases h.2 with⟨rfl,h0⟩|⟨g',cap,cur,rfl,_⟩;(·exact⟨none,0,by rw[h0]⟩);·exact⟨_,_,rfl⟩
theorem SlK.of_own{w:World}{base n:Nat}{t:TypeId}{v:Value}{ts:List Tok}(h:w.ownsRow base t 4 v n (cellsT ts))(hok:∀t∈ts,TokOk t):SlK w v ts:=by(have hn:n=ts.length:=by have:=h.1;rw[cellsT_len]at this;omega);subst hn;rcases h.2 with⟨rfl,h0⟩|⟨g,cap,cur,rfl,_,hg,h3,h4,_,_⟩;(·have:ts=[]:=List.length_eq_zero_iff.1 h0;subst this;exact SlK.nil w);·refine⟨hok,_,cap,rfl,h3,by simpa[maxLen]using h4,(fun h=>by cases h),fun _=>⟨g,0,rfl,(Array.getElem?_eq_some_iff.1 hg).1,fun i hi=>?_⟩⟩;have hc:=h.cells (g:=g) rfl;have hget:=cellsT_get ts i _ (tok_some hi);have c0:=hc _ _ ((hget 0 (by omega)).trans rfl);have c1:=hc _ _ ((hget 1 (by omega)).trans rfl);have c2:=hc _ _ ((hget 2 (by omega)).trans rfl);have c3:=hc _ _ ((hget 3 (by omega)).trans rfl);rw[add_off]at c0 c1 c2 c3;exact⟨c0,c1,c2,c3⟩
theorem infoT:(Tryz.prog.info? 164).map (fun i=>(i.zero,i.size,i.bytes))=some (some (.agg #[.int .u8 0,.string ⟨#[]⟩,.int .i64 0,.int .i64 0]),4,40):=by kernel_rfl
end Go.Proofs.YtikepaanbnfpcaaGreatDoor
namespace Go.Proofs.YtikepaanbnfpcaaGreatDoor
theorem items_skip(o:Nat)(l:List UInt8):items o l=items (o+idleN l) (l.drop (idleN l)):=by
 have hd:=idleN_drop l;have hs:=skp_skp false l;have h0:idleN (l.drop (idleN l))=0:=by show(l.drop (idleN l)).length-(skp false (l.drop (idleN l))).length=0;rw[hd,hs];omega
 cases h:skp false l with
 |nil=>rw[items_nil h,hd,h];exact(items_nil (skp_nil false)).symm
 |cons c m=>(have h2:skp false (l.drop (idleN l))=c::m:=by rw[hd,hs,h]);by_cases he:(fst1 (c::m)).2=0;(·rw[items_cons h he,items_cons h2 he,h0];rfl);·rw[items_bad h he,items_bad h2 he,h0];rfl
def Here(l:List UInt8):Prop:=skp false l=l
theorem here_drop(l:List UInt8):Here (l.drop (idleN l)):=by unfold Here;rw[idleN_drop];exact skp_skp false l
theorem here_idle{l:List UInt8}(h:Here l):idleN l=0:=by unfold Here at h;unfold idleN;rw[h];omega
theorem here_cons{o:Nat}{c:UInt8}{m:List UInt8}(h:Here (c::m))(he:(fst1 (c::m)).2=0):items o (c::m)=((fst1 (c::m)).1.at_ (o:Int),0)::items (o+(fst1 (c::m)).1.text.length) ((c::m).drop (fst1 (c::m)).1.text.length):=by rw[items_cons h he,here_idle h];rfl
theorem here_bad{o:Nat}{c:UInt8}{m:List UInt8}(h:Here (c::m))(he:(fst1 (c::m)).2≠0):items o (c::m)=[((fst1 (c::m)).1.at_ (o:Int),(fst1 (c::m)).2)]:=by rw[items_bad h he,here_idle h];rfl
theorem here_nil(o:Nat):items o []=[]:=items_nil (skp_nil false)
theorem fst1_kind(l:List UInt8):(fst1 l).1.kind≤3:=by
 cases l with
 |nil=>exact Nat.zero_le _
 |cons c m=>rw[fst1];split;(·split<;>simp[badT]);·split;(·split;(·simp[badT]);·split<;>simp[badT]);·split<;>simp[badT]
theorem fst1_bad{l:List UInt8}(h:(fst1 l).2≠0):(fst1 l).1=⟨0,[],0,0⟩:=by
 cases l with
 |nil=>rfl
 |cons c m=>rw[fst1]at h⊢;split;(·next h1=>rw[if_pos h1]at h;split;(·rfl);·next h2=>rw[if_neg h2]at h;exact(h rfl).elim);·next h1=>rw[if_neg h1]at h;split;(·next h2=>rw[if_pos h2]at h;split;(·rfl);·next h3=>rw[if_neg h3]at h;split;(·rfl);·next h4=>rw[if_neg h4]at h;exact(h rfl).elim);·next h2=>rw[if_neg h2]at h;split;(·next h3=>rw[if_pos h3]at h;exact(h rfl).elim);·rfl
theorem fst1_num(l:List UInt8):0≤(fst1 l).1.num∧(fst1 l).1.num<1000000000:=by
 cases l with
 |nil=>exact⟨by decide,by decide⟩
 |cons c m=>rw[fst1];split;(·split<;>exact⟨by simp[badT],by simp[badT]⟩);·split;(·split;(·exact⟨by simp[badT],by simp[badT]⟩);·split;(·exact⟨by simp[badT],by simp[badT]⟩);·next h=>have h1:=numV_lt _ (runN_take isDig (c::m));have h2:=runN_le isDig (c::m);(have h3:((c::m).take (runN isDig (c::m))).length≤9:=by rw[List.length_take];omega);have h4:10^((c::m).take (runN isDig (c::m))).length≤10^9:=Nat.pow_le_pow_right (by omega) h3;refine⟨Int.natCast_nonneg _,?_⟩;show((numV ((c::m).take (runN isDig (c::m))):Nat):Int)<1000000000;omega);·split<;>exact⟨by simp[badT],by simp[badT]⟩
theorem fst1_len{l:List UInt8}(h:(fst1 l).2=0):(fst1 l).1.text.length≤12:=by
 cases l with
 |nil=>cases h
 |cons c m=>rw[fst1]at h⊢;split;(·next h1=>rw[if_pos h1]at h;split;(·simp[badT]);·show(List.take _ _).length≤12;rw[List.length_take];omega);·next h1=>rw[if_neg h1]at h;split;(·next h2=>rw[if_pos h2]at h;split;(·simp[badT]);·split;(·simp[badT]);·show(List.take _ _).length≤12;rw[List.length_take];omega);·split<;>simp[badT]
theorem rightT_len{t:Tok}(h:rightT t):t.text.length≤12:=by have:=fst1_len h.2.1;rwa[h.2.2.2.1]at this
theorem sum_len_take(ts:List (List UInt8))(k:Nat)(h:k<ts.length):((ts.take (k+1)).map List.length).sum=((ts.take k).map List.length).sum+ts[k].length:=by rw[List.take_succ_eq_append_getElem h,List.map_append,List.sum_append];simp
theorem sum_len_le(ts:List (List UInt8))(h:∀t∈ts,t.length≤12):(ts.map List.length).sum≤12*ts.length:=by
 induction ts with
 |nil=>simp
 |cons t ts ih=>have h1:=h t (by simp);have h2:=ih (fun x hx=>h x (by simp[hx]));simp only[List.map_cons,List.sum_cons,List.length_cons];omega
theorem printF_bad{ts:List Tok}{t:Tok}(h:t∈ts)(hr:¬rightT t):printF ts=([],1):=by unfold printF;rw[if_neg (fun hh=>hr (hh t h))]
theorem printF_long{ts:List Tok}(h:∀t∈ts,rightT t)(hl:4096<(joinL [32] (ts.map Tok.text)).length):printF ts=([],3):=by unfold printF;rw[if_pos h,if_pos hl]
theorem printF_ok{ts:List Tok}(h:∀t∈ts,rightT t)(hl:¬4096<(joinL [32] (ts.map Tok.text)).length):printF ts=(joinL [32] (ts.map Tok.text),0):=by unfold printF;rw[if_pos h,if_neg hl]
theorem toksF_ok{l:List UInt8}(h:¬4096<l.length):toksF l=fin (items 0 l) []:=by unfold toksF;rw[if_neg h]
theorem toksF_long{l:List UInt8}(h:4096<l.length):toksF l=([],4096,3):=by unfold toksF;rw[if_pos h]
inductive Cl where|mk(kind:Nat)(names:List (List UInt8))(dom:Nat)(idx a b:Int)(items:List Cl)(off:Int)
def Cl.kind:Cl→Nat|.mk k _ _ _ _ _ _ _=>k
def Cl.names:Cl→List (List UInt8)|.mk _ n _ _ _ _ _ _=>n
def Cl.dom:Cl→Nat|.mk _ _ d _ _ _ _ _=>d
def Cl.idx:Cl→Int|.mk _ _ _ i _ _ _ _=>i
def Cl.a:Cl→Int|.mk _ _ _ _ a _ _ _=>a
def Cl.b:Cl→Int|.mk _ _ _ _ _ b _ _=>b
def Cl.items:Cl→List Cl|.mk _ _ _ _ _ _ l _=>l
def Cl.off:Cl→Int|.mk _ _ _ _ _ _ _ o=>o
def sService:List UInt8:=[115,101,114,118,105,99,101]
def sWindow:List UInt8:=[119,105,110,100,111,119]
def sApprove:List UInt8:=[97,112,112,114,111,118,101]
def sBlast:List UInt8:=[98,108,97,115,116]
def sCap:List UInt8:=[99,97,112]
def sCores:List UInt8:=[99,111,114,101,115]
def sReplicas:List UInt8:=[114,101,112,108,105,99,97,115]
def sLeast:List UInt8:=[108,101,97,115,116]
def sSpread:List UInt8:=[115,112,114,101,97,100]
def sApart:List UInt8:=[97,112,97,114,116]
def sNear:List UInt8:=[110,101,97,114]
def sFirmware:List UInt8:=[102,105,114,109,119,97,114,101]
def sFrom:List UInt8:=[102,114,111,109]
def sTo:List UInt8:=[116,111]
def sAt:List UInt8:=[97,116]
def sPer:List UInt8:=[112,101,114]
def sWithin:List UInt8:=[119,105,116,104,105,110]
def sHost:List UInt8:=[104,111,115,116]
def sRack:List UInt8:=[114,97,99,107]
def sRow:List UInt8:=[114,111,119]
def sFeed:List UInt8:=[102,101,101,100]
def sLoop:List UInt8:=[108,111,111,112]
def sSemi:List UInt8:=[59]
def sComma:List UInt8:=[44]
def sOpen:List UInt8:=[123]
def sClose:List UInt8:=[125]
def wordsL:List (List UInt8):=[sService,sWindow,sApprove,sBlast,sCap,sCores,sReplicas,sLeast,sSpread,sApart,sNear,sFirmware,sFrom,sTo,sAt,sPer,sWithin,sHost,sRack,sRow,sFeed,sLoop]
def isWord(t:List UInt8):Bool:=wordsL.contains t
def scopeN(t:List UInt8):Nat:=if t=sHost then 1 else if t=sRack then 2 else if t=sRow then 3 else if t=sFeed then 4 else if t=sLoop then 5 else 0
def topK(t:List UInt8):Nat:=if t=sService then 1 else if t=sWindow then 2 else if t=sApprove then 3 else if t=sBlast then 4 else if t=sCap then 5 else 0
def itemK(t:List UInt8):Nat:=if t=sCores then 6 else if t=sReplicas then 7 else if t=sLeast then 8 else if t=sSpread then 9 else if t=sApart then 10 else if t=sNear then 11 else if t=sFirmware then 12 else 0
def namedT(t:Tok):Bool:=t.kind==1&&!isWord t.text
def numberedT(t:Tok):Bool:=t.kind==2
def scopedT(t:Tok):Bool:=scopeN t.text !=0
abbrev PR(α:Type):=Except (List Tok) (α×List Tok)
def andP{α β:Type}(x:PR α)(f:α→List Tok→PR β):PR β:=match x with|.error e=>.error e|.ok (a,r)=>f a r
def nextP(cls:Tok→Bool):List Tok→PR Tok|[]=>.error []|t::r=>if cls t then .ok (t,r)else .error (t::r)
def wantP(s:List UInt8)(ts:List Tok):PR Tok:=nextP (fun t=>t.text==s) ts
def nameP(ts:List Tok):PR (List UInt8):=andP (nextP namedT ts) fun t r=>.ok (t.text,r)
def numP(ts:List Tok):PR Int:=andP (nextP numberedT ts) fun t r=>.ok (t.num,r)
def scopeP(ts:List Tok):PR Nat:=andP (nextP scopedT ts) fun t r=>.ok (scopeN t.text,r)
def moreP:List Tok→PR (List (List UInt8))|t::t2::r=>if t.text==sComma then(if namedT t2 then andP (moreP r) fun l r=>.ok (t2.text::l,r)else .error (t2::r))else .ok ([],t::t2::r)|[t]=>if t.text==sComma then .error []else .ok ([],[t])|[]=>.ok ([],[])
def bodyI(k:Nat)(o:Int)(ts:List Tok):PR Cl:=if k=9 then andP (numP ts) fun a r=>andP (wantP sPer r) fun _ r=>andP (scopeP r) fun d r=>.ok (.mk 9 [] d 0 a 0 [] o,r)else if k=10 then andP (nameP ts) fun n r=>andP (moreP r) fun l r=>.ok (.mk 10 (n::l) 0 0 0 0 [] o,r)else if k=11 then andP (nameP ts) fun n r=>andP (wantP sWithin r) fun _ r=>andP (numP r) fun a r=>.ok (.mk 11 [n] 0 0 a 0 [] o,r)else andP (numP ts) fun a r=>.ok (.mk k [] 0 0 a 0 [] o,r)
def semiP(x:PR Cl):PR Cl:=andP x fun c r=>andP (wantP sSemi r) fun _ r=>.ok (c,r)
def itemP:List Tok→PR Cl|[]=>.error []|t::r=>if itemK t.text=0 then .error (t::r)else semiP (bodyI (itemK t.text) t.off r)
def itemsP:Nat→List Tok→PR (List Cl)|0,ts=>.error ts|_+1,[]=>.error []|n+1,t::r=>if t.text==sClose then .ok ([],r)else andP (itemP (t::r)) fun c r=>andP (itemsP n r) fun l r=>.ok (c::l,r)
def bodyT(k:Nat)(o:Int)(ts:List Tok):PR Cl:=if k=1 then andP (nameP ts) fun n r=>andP (wantP sOpen r) fun _ r=>andP (itemsP (r.length+1) r) fun l r=>.ok (.mk 1 [n] 0 0 0 0 l o,r)else if k=2 then andP (scopeP ts) fun d r=>andP (numP r) fun i r=>andP (wantP sFrom r) fun _ r=>andP (numP r) fun a r=>andP (wantP sTo r) fun _ r=>andP (numP r) fun b r=>.ok (.mk 2 [] d i a b [] o,r)else if k=3 then andP (scopeP ts) fun d r=>andP (numP r) fun i r=>.ok (.mk 3 [] d i 0 0 [] o,r)else if k=4 then andP (numP ts) fun a r=>.ok (.mk 4 [] 0 0 a 0 [] o,r)else andP (wantP sFeed ts) fun _ r=>andP (numP r) fun i r=>andP (wantP sAt r) fun _ r=>andP (numP r) fun a r=>.ok (.mk 5 [] 0 i a 0 [] o,r)
def topP:List Tok→PR Cl|[]=>.error []|t::r=>if topK t.text=0 then .error (t::r)else if topK t.text=1 then bodyT 1 t.off r else semiP (bodyT (topK t.text) t.off r)
def clausesP:Nat→List Tok→PR (List Cl)|_,[]=>.ok ([],[])|0,ts=>.error ts|n+1,t::r=>andP (topP (t::r)) fun c r=>andP (clausesP n r) fun l r=>.ok (c::l,r)
def offE(n:Int):List Tok→Int|[]=>n|t::_=>t.off
def parseF(s:List UInt8):List Cl×Int×Nat:=match toksF s with|(l,o,e)=>if e≠0 then([],o,e)else match clausesP (l.length+1) l with|.error r=>([],offE s.length r,4)|.ok (cs,_)=>(cs,0,0)
structure Look{α:Type}(P:List Tok→PR α):Prop where
 err:∀ts t r,P ts=.error (t::r)→∃u,ts=u++t::r∧∀r',P (u++t::r')=.error (t::r')
 ok:∀ts v t r,P ts=.ok (v,t::r)→∃u,ts=u++t::r∧∀r',P (u++t::r')=.ok (v,t::r')
 suf:∀ts v r,P ts=.ok (v,r)→∃u,ts=u++r
structure Shut{α:Type}(P:List Tok→PR α):Prop where
 err:∀ts t r,P ts=.error (t::r)→∃u,ts=u++t::r∧∀r',P (u++t::r')=.error (t::r')
 ok:∀ts v r,P ts=.ok (v,r)→∃u,ts=u++r∧∀r',P (u++r')=.ok (v,r')
section
variable{α β:Type}{P:List Tok→PR α}{f:α→List Tok→PR β}
theorem Shut.look(h:Shut P):Look P:=⟨h.err,fun ts v t r e=>by obtain⟨u,h1,h2⟩:=h.ok ts v (t::r) e;exact⟨u,h1,fun r'=>h2 (t::r')⟩,fun ts v r e=>by obtain⟨u,h1,_⟩:=h.ok ts v r e;exact⟨u,h1⟩⟩
theorem Look.and(h:Look P)(k:∀a,Look (f a)):Look (fun ts=>andP (P ts) f):=by refine⟨fun ts t r e=>?_,fun ts v t r e=>?_,fun ts v r e=>?_⟩;(·rcases hp:P ts with e'|⟨a,r1⟩;(·rw[hp]at e;have e:(Except.error e':PR β)=.error (t::r):=e;injection e with e;subst e;obtain⟨u,h1,h2⟩:=h.err ts t r hp;exact⟨u,h1,fun r'=>by show andP (P _) f=_;rw[h2];rfl⟩);·rw[hp]at e;have e:f a r1=.error (t::r):=e;obtain⟨u1,h1,h2⟩:=(k a).err r1 t r e;rcases r1 with _|⟨t1,r1⟩;(·simp at h1);·obtain⟨u,h3,h4⟩:=h.ok ts a t1 r1 hp;rcases u1 with _|⟨t0,u1⟩;(·simp only[List.nil_append,List.cons.injEq]at h1;obtain⟨rfl,rfl⟩:=h1;exact⟨u,h3,fun r'=>by show andP (P _) f=_;rw[h4 r'];exact h2 r'⟩);·simp only[List.cons_append,List.cons.injEq]at h1;obtain⟨rfl,rfl⟩:=h1;refine⟨u++t1::u1,by rw[h3];simp,fun r'=>?_⟩;show andP (P _) f=_;rw[List.append_assoc,List.cons_append,h4 (u1++t::r')];exact h2 r');(·rcases hp:P ts with e'|⟨a,r1⟩;(·rw[hp]at e;cases e);·rw[hp]at e;have e:f a r1=.ok (v,t::r):=e;obtain⟨u1,h1,h2⟩:=(k a).ok r1 v t r e;rcases r1 with _|⟨t1,r1⟩;(·simp at h1);·obtain⟨u,h3,h4⟩:=h.ok ts a t1 r1 hp;rcases u1 with _|⟨t0,u1⟩;(·simp only[List.nil_append,List.cons.injEq]at h1;obtain⟨rfl,rfl⟩:=h1;exact⟨u,h3,fun r'=>by show andP (P _) f=_;rw[h4 r'];exact h2 r'⟩);·simp only[List.cons_append,List.cons.injEq]at h1;obtain⟨rfl,rfl⟩:=h1;refine⟨u++t1::u1,by rw[h3];simp,fun r'=>?_⟩;show andP (P _) f=_;rw[List.append_assoc,List.cons_append,h4 (u1++t::r')];exact h2 r');·rcases hp:P ts with e'|⟨a,r1⟩;(·rw[hp]at e;cases e);·rw[hp]at e;have e:f a r1=.ok (v,r):=e;obtain⟨u,h1⟩:=h.suf ts a r1 hp;obtain⟨u1,h2⟩:=(k a).suf r1 v r e;exact⟨u++u1,by rw[h1,h2,List.append_assoc]⟩
theorem Look.shut(h:Look P)(k:∀a,Shut (f a))(hc:∀a r v r',f a r=.ok (v,r')→r'.length<r.length):Shut (fun ts=>andP (P ts) f):=by refine⟨(h.and fun a=>(k a).look).err,fun ts v r e=>?_⟩;rcases hp:P ts with e'|⟨a,r1⟩;(·rw[hp]at e;cases e);·rw[hp]at e;have e:f a r1=.ok (v,r):=e;have hn:=hc a r1 v r e;obtain⟨u1,h1,h2⟩:=(k a).ok r1 v r e;rcases r1 with _|⟨t1,r1⟩;(·simp at hn);·obtain⟨u,h3,h4⟩:=h.ok ts a t1 r1 hp;rcases u1 with _|⟨t0,u1⟩;(·rw[List.nil_append]at h1;rw[h1]at hn;omega);·simp only[List.cons_append,List.cons.injEq]at h1;obtain⟨rfl,rfl⟩:=h1;refine⟨u++t1::u1,by rw[h3];simp,fun r'=>?_⟩;show andP (P _) f=_;rw[List.append_assoc,List.cons_append,h4 (u1++r')];exact h2 r'
end
theorem Look.ite{α:Type}{P Q:List Tok→PR α}{c:Prop}[Decidable c](h:Look P)(k:Look Q):Look (fun ts=>if c then P ts else Q ts):=by by_cases hc:c;(·simpa[hc]using h);·simpa[hc]using k
theorem Shut.pure{α:Type}(a:α):Shut (fun ts=>(.ok (a,ts):PR α)):=by refine⟨fun ts t r e=>?_,fun ts v r e=>?_⟩;(·cases e);·injection e with e;injection e with e1 e2;subst e1 e2;exact⟨[],rfl,fun _=>rfl⟩
theorem Look.pure{α:Type}(a:α):Look (fun ts=>(.ok (a,ts):PR α)):=(Shut.pure a).look
theorem nextP_at(cls:Tok→Bool)(x:Tok)(r:List Tok):nextP cls (x::r)=if cls x then .ok (x,r)else .error (x::r):=rfl
theorem nextP_shut(cls:Tok→Bool):Shut (nextP cls):=by refine⟨fun ts t r e=>?_,fun ts v r e=>?_⟩;(·rcases ts with _|⟨x,ts⟩;(·cases e);·rw[nextP_at]at e;by_cases hx:cls x=true;(·rw[if_pos hx]at e;cases e);·rw[if_neg hx]at e;injection e with e;injection e with e1 e2;subst e1 e2;exact⟨[],rfl,fun r'=>by rw[List.nil_append,nextP_at,if_neg hx]⟩);·rcases ts with _|⟨x,ts⟩;(·cases e);·rw[nextP_at]at e;by_cases hx:cls x=true;(·rw[if_pos hx]at e;injection e with e;injection e with e1 e2;subst e1 e2;exact⟨[x],rfl,fun r'=>by rw[List.singleton_append,nextP_at,if_pos hx]⟩);·rw[if_neg hx]at e;cases e
theorem nextP_len{cls:Tok→Bool}{ts:List Tok}{v:Tok}{r:List Tok}(e:nextP cls ts=.ok (v,r)):ts=v::r∧cls v=true:=by rcases ts with _|⟨x,ts⟩;(·cases e);·rw[nextP_at]at e;by_cases hx:cls x=true;(·rw[if_pos hx]at e;injection e with e;injection e with e1 e2;subst e1 e2;exact⟨rfl,hx⟩);·rw[if_neg hx]at e;cases e
theorem Shut.map{α β:Type}{P:List Tok→PR α}(h:Shut P)(g:α→β):Shut (fun ts=>andP (P ts) fun a r=>.ok (g a,r)):=by refine⟨fun ts t r e=>?_,fun ts v r e=>?_⟩;(·rcases hp:P ts with e'|⟨a,r1⟩;(·rw[hp]at e;have e:(Except.error e':PR β)=.error (t::r):=e;injection e with e;subst e;obtain⟨u,h1,h2⟩:=h.err ts t r hp;exact⟨u,h1,fun r'=>by show andP (P _) _=_;rw[h2];rfl⟩);·rw[hp]at e;cases e);·rcases hp:P ts with e'|⟨a,r1⟩;(·rw[hp]at e;cases e);·rw[hp]at e;have e:(Except.ok (g a,r1):PR β)=.ok (v,r):=e;injection e with e;injection e with e1 e2;subst e1 e2;obtain⟨u,h1,h2⟩:=h.ok ts a r1 hp;exact⟨u,h1,fun r'=>by show andP (P _) _=_;rw[h2];rfl⟩
theorem andP_ok{α β:Type}{x:PR α}{f:α→List Tok→PR β}{v:β}{r:List Tok}(h:andP x f=.ok (v,r)):∃a r1,x=.ok (a,r1)∧f a r1=.ok (v,r):=by rcases x with e|⟨a,r1⟩;(·cases h);·exact⟨a,r1,rfl,h⟩
theorem wantP_shut(s:List UInt8):Shut (wantP s):=nextP_shut _
theorem nameP_shut:Shut nameP:=(nextP_shut _).map _
theorem numP_shut:Shut numP:=(nextP_shut _).map _
theorem scopeP_shut:Shut scopeP:=(nextP_shut _).map _
theorem wantP_len{s:List UInt8}{ts:List Tok}{v:Tok}{r:List Tok}(e:wantP s ts=.ok (v,r)):ts=v::r∧v.text=s:=by obtain⟨h1,h2⟩:=nextP_len e;exact⟨h1,by simpa using h2⟩
theorem nameP_len{ts:List Tok}{v:List UInt8}{r:List Tok}(e:nameP ts=.ok (v,r)):∃t,ts=t::r∧namedT t=true∧v=t.text:=by obtain⟨t,r1,h1,h2⟩:=andP_ok e;injection h2 with h2;injection h2 with e1 e2;subst e1 e2;obtain⟨h3,h4⟩:=nextP_len h1;exact⟨t,h3,h4,rfl⟩
theorem numP_len{ts:List Tok}{v:Int}{r:List Tok}(e:numP ts=.ok (v,r)):∃t,ts=t::r∧numberedT t=true∧v=t.num:=by obtain⟨t,r1,h1,h2⟩:=andP_ok e;injection h2 with h2;injection h2 with e1 e2;subst e1 e2;obtain⟨h3,h4⟩:=nextP_len h1;exact⟨t,h3,h4,rfl⟩
theorem scopeP_len{ts:List Tok}{v:Nat}{r:List Tok}(e:scopeP ts=.ok (v,r)):∃t,ts=t::r∧scopedT t=true∧v=scopeN t.text:=by obtain⟨t,r1,h1,h2⟩:=andP_ok e;injection h2 with h2;injection h2 with e1 e2;subst e1 e2;obtain⟨h3,h4⟩:=nextP_len h1;exact⟨t,h3,h4,rfl⟩
theorem moreP_look:Look moreP:=by
 have key:∀n(ts:List Tok),ts.length≤n→(∀t r,moreP ts=.error (t::r)→∃u,ts=u++t::r∧∀r',moreP (u++t::r')=.error (t::r'))∧(∀v t r,moreP ts=.ok (v,t::r)→∃u,ts=u++t::r∧∀r',moreP (u++t::r')=.ok (v,t::r'))∧(∀v r,moreP ts=.ok (v,r)→∃u,ts=u++r):=by
  intro n
  induction n with
  |zero=>intro ts h;obtain rfl:ts=[]:=List.length_eq_zero_iff.1 (by omega);refine⟨fun t r e=>(by cases e),fun v t r e=>(by cases e),fun v r e=>?_⟩;injection e with e;injection e with e1 e2;exact⟨[],by rw[←e2];rfl⟩
  |succ n ih=>intro ts h;rcases ts with _|⟨a,_|⟨b,ts⟩⟩;(·refine⟨fun t r e=>(by cases e),fun v t r e=>(by cases e),fun v r e=>?_⟩;injection e with e;injection e with e1 e2;exact⟨[],by rw[←e2];rfl⟩);(·by_cases ha:(a.text==sComma)=true;(·(have e0:moreP [a]=.error []:=by rw[moreP,if_pos ha]);rw[e0];exact⟨fun t r e=>(by cases e),fun v t r e=>(by cases e),fun v r e=>by cases e⟩);·(have e0:∀r',moreP (a::r')=.ok ([],a::r'):=fun r'=>by cases r'<;>rw[moreP,if_neg ha]);rw[e0];refine⟨fun t r e=>(by cases e),fun v t r e=>?_,fun v r e=>?_⟩;(·injection e with e;injection e with e1 e2;injection e2 with e2 e3;subst e1 e2 e3;exact⟨[],rfl,fun r'=>e0 r'⟩);·injection e with e;injection e with e1 e2;exact⟨[],by rw[←e2];rfl⟩);·by_cases ha:(a.text==sComma)=true;(·by_cases hb:namedT b=true;(·(have e0:∀r',moreP (a::b::r')=andP (moreP r') fun l r=>.ok (b.text::l,r):=fun r'=>by rw[moreP,if_pos ha,if_pos hb]);obtain⟨i1,i2,i3⟩:=ih ts (by simp at h;omega);rw[e0];refine⟨fun t r e=>?_,fun v t r e=>?_,fun v r e=>?_⟩;(·rcases hp:moreP ts with e'|⟨x,r1⟩;(·rw[hp]at e;have e:(Except.error e':PR (List (List UInt8)))=.error (t::r):=e;injection e with e;subst e;obtain⟨u,h1,h2⟩:=i1 t r hp;refine⟨a::b::u,by rw[h1];rfl,fun r'=>?_⟩;show moreP (a::b::(u++t::r'))=_;rw[e0,h2];rfl);·rw[hp]at e;cases e);(·obtain⟨x,r1,h1,h2⟩:=andP_ok e;injection h2 with h2;injection h2 with e1 e2;subst e1 e2;obtain⟨u,h3,h4⟩:=i2 x t r h1;refine⟨a::b::u,by rw[h3];rfl,fun r'=>?_⟩;show moreP (a::b::(u++t::r'))=_;rw[e0,h4];rfl);·obtain⟨x,r1,h1,h2⟩:=andP_ok e;injection h2 with h2;injection h2 with e1 e2;subst e1 e2;obtain⟨u,h3⟩:=i3 x r1 h1;exact⟨a::b::u,by rw[h3];rfl⟩);·(have e0:∀r',moreP (a::b::r')=.error (b::r'):=fun r'=>by rw[moreP,if_pos ha,if_neg hb]);rw[e0];refine⟨fun t r e=>?_,fun v t r e=>(by cases e),fun v r e=>by cases e⟩;injection e with e;injection e with e1 e2;subst e1 e2;exact⟨[a],rfl,fun r'=>e0 r'⟩);·(have e0:∀r',moreP (a::r')=.ok ([],a::r'):=fun r'=>by cases r'<;>rw[moreP,if_neg ha]);rw[e0];refine⟨fun t r e=>(by cases e),fun v t r e=>?_,fun v r e=>?_⟩;(·injection e with e;injection e with e1 e2;injection e2 with e2 e3;subst e1 e2 e3;exact⟨[],rfl,fun r'=>e0 r'⟩);·injection e with e;injection e with e1 e2;exact⟨[],by rw[←e2];rfl⟩
 exact⟨fun ts=>(key ts.length ts (Nat.le_refl _)).1,fun ts=>(key ts.length ts (Nat.le_refl _)).2.1,fun ts=>(key ts.length ts (Nat.le_refl _)).2.2⟩
theorem bodyI_look(k:Nat)(o:Int):Look (bodyI k o):=by unfold bodyI;refine Look.ite ?_ (Look.ite ?_ (Look.ite ?_ ?_));(·exact numP_shut.look.and fun a=>(wantP_shut _).look.and fun _=>scopeP_shut.look.and fun d=>Look.pure _);(·exact nameP_shut.look.and fun n=>moreP_look.and fun l=>Look.pure _);(·exact nameP_shut.look.and fun n=>(wantP_shut _).look.and fun _=>numP_shut.look.and fun a=>Look.pure _);·exact numP_shut.look.and fun a=>Look.pure _
theorem semi_shut{P:List Tok→PR Cl}(h:Look P):Shut (fun ts=>semiP (P ts)):=by unfold semiP;refine h.shut (fun c=>(wantP_shut sSemi).map _) (fun a r v r' e=>?_);obtain⟨t,r1,h1,h2⟩:=andP_ok e;injection h2 with h2;injection h2 with e1 e2;subst e1 e2;rw[(wantP_len h1).1];simp
theorem itemP_shut:Shut itemP:=by refine⟨fun ts t r e=>?_,fun ts v r e=>?_⟩;(·rcases ts with _|⟨x,ts⟩;(·cases e);·by_cases hx:itemK x.text=0;(·(have e0:∀r',itemP (x::r')=.error (x::r'):=fun r'=>by rw[itemP,if_pos hx]);rw[e0]at e;injection e with e;injection e with e1 e2;subst e1 e2;exact⟨[],rfl,fun r'=>e0 r'⟩);·(have e0:∀r',itemP (x::r')=semiP (bodyI (itemK x.text) x.off r'):=fun r'=>by rw[itemP,if_neg hx]);rw[e0]at e;obtain⟨u,h1,h2⟩:=(semi_shut (bodyI_look (itemK x.text) x.off)).err ts t r e;exact⟨x::u,by rw[h1];rfl,fun r'=>by show itemP (x::(u++t::r'))=_;rw[e0];exact h2 r'⟩);·rcases ts with _|⟨x,ts⟩;(·cases e);·by_cases hx:itemK x.text=0;(·rw[itemP,if_pos hx]at e;cases e);·(have e0:∀r',itemP (x::r')=semiP (bodyI (itemK x.text) x.off r'):=fun r'=>by rw[itemP,if_neg hx]);rw[e0]at e;obtain⟨u,h1,h2⟩:=(semi_shut (bodyI_look (itemK x.text) x.off)).ok ts v r e;exact⟨x::u,by rw[h1];rfl,fun r'=>by show itemP (x::(u++r'))=_;rw[e0];exact h2 r'⟩
theorem itemP_len{ts:List Tok}{c:Cl}{r:List Tok}(e:itemP ts=.ok (c,r)):r.length<ts.length:=by rcases ts with _|⟨x,ts⟩;(·cases e);·by_cases hx:itemK x.text=0;(·rw[itemP,if_pos hx]at e;cases e);·rw[itemP,if_neg hx]at e;obtain⟨u,h1,_⟩:=(semi_shut (bodyI_look (itemK x.text) x.off)).ok ts c r e;rw[h1];simp;omega
theorem fuel_shut{α:Type}{P:Nat→List Tok→PR α}(h:∀n,Shut (P n))(hf:∀n ts,ts.length<n→P n ts=P (ts.length+1) ts):Shut (fun ts=>P (ts.length+1) ts):=by refine⟨fun ts t r e=>?_,fun ts v r e=>?_⟩;(·obtain⟨u,h1,_⟩:=(h _).err ts t r e;refine⟨u,h1,fun r'=>?_⟩;obtain⟨N,h2,h3⟩:∃N,ts.length<N∧(u++t::r').length<N:=⟨max ts.length (u++t::r').length+1,by omega,by omega⟩;have e2:P N ts=.error (t::r):=(hf N ts h2).trans e;obtain⟨u',h4,h5⟩:=(h N).err ts t r e2;obtain rfl:u=u':=List.append_cancel_right (h1.symm.trans h4);exact(hf N _ h3).symm.trans (h5 r'));·obtain⟨u,h1,_⟩:=(h _).ok ts v r e;refine⟨u,h1,fun r'=>?_⟩;obtain⟨N,h2,h3⟩:∃N,ts.length<N∧(u++r').length<N:=⟨max ts.length (u++r').length+1,by omega,by omega⟩;have e2:P N ts=.ok (v,r):=(hf N ts h2).trans e;obtain⟨u',h4,h5⟩:=(h N).ok ts v r e2;obtain rfl:u=u':=List.append_cancel_right (h1.symm.trans h4);exact(hf N _ h3).symm.trans (h5 r')
theorem itemsP_at(n:Nat)(t:Tok)(r:List Tok):itemsP (n+1) (t::r)=if t.text==sClose then .ok ([],r)else andP (itemP (t::r)) fun c r=>andP (itemsP n r) fun l r=>.ok (c::l,r):=rfl
theorem itemsP_nil(n:Nat):itemsP n []=.error []:=by cases n<;>rfl
theorem Shut.and{α β:Type}{P:List Tok→PR α}{f:α→List Tok→PR β}(h:Shut P)(k:∀a,Shut (f a)):Shut (fun ts=>andP (P ts) f):=by refine⟨(h.look.and fun a=>(k a).look).err,fun ts v r e=>?_⟩;obtain⟨a,r1,h1,h2⟩:=andP_ok e;obtain⟨u,h3,h4⟩:=h.ok ts a r1 h1;obtain⟨u1,h5,h6⟩:=(k a).ok r1 v r h2;refine⟨u++u1,by rw[h3,h5,List.append_assoc],fun r'=>?_⟩;show andP (P _) f=_;rw[List.append_assoc,h4];exact h6 r'
theorem itemsP_shut:∀n,Shut (itemsP n)|0=>by refine⟨fun ts t r e=>?_,fun ts v r e=>?_⟩;(·rcases ts with _|⟨x,ts⟩;(·cases e);·injection e with e;injection e with e1 e2;subst e1 e2;exact⟨[],rfl,fun r'=>rfl⟩);·cases ts<;>cases e|n+1=>by have ih:=itemsP_shut n;have hs:Shut (fun ts=>andP (itemP ts) fun c r=>andP (itemsP n r) fun l r=>.ok (c::l,r)):=itemP_shut.and fun c=>ih.map _;refine⟨fun ts t r e=>?_,fun ts v r e=>?_⟩;(·rcases ts with _|⟨x,ts⟩;(·cases e);·rw[itemsP_at]at e;by_cases hx:(x.text==sClose)=true;(·rw[if_pos hx]at e;cases e);·rw[if_neg hx]at e;obtain⟨u,h1,h2⟩:=hs.err _ t r e;refine⟨u,h1,fun r'=>?_⟩;rcases u with _|⟨y,u⟩;(·simp only[List.nil_append,List.cons.injEq]at h1;obtain⟨rfl,rfl⟩:=h1;rw[List.nil_append,itemsP_at,if_neg hx];exact h2 r');·simp only[List.cons_append,List.cons.injEq]at h1;obtain⟨rfl,rfl⟩:=h1;rw[List.cons_append,itemsP_at,if_neg hx];exact h2 r');·rcases ts with _|⟨x,ts⟩;(·cases e);·rw[itemsP_at]at e;by_cases hx:(x.text==sClose)=true;(·rw[if_pos hx]at e;injection e with e;injection e with e1 e2;subst e1 e2;exact⟨[x],rfl,fun r'=>by rw[List.singleton_append,itemsP_at,if_pos hx]⟩);·rw[if_neg hx]at e;obtain⟨u,h1,h2⟩:=hs.ok _ v r e;refine⟨u,h1,fun r'=>?_⟩;rcases u with _|⟨y,u⟩;(·exfalso;obtain⟨c,r1,h3,h4⟩:=andP_ok e;obtain⟨l,r2,h5,h6⟩:=andP_ok h4;have h7:=itemP_len h3;obtain⟨u2,h8,_⟩:=ih.ok _ _ _ h5;injection h6 with h6;injection h6 with h6 h9;rw[←h9]at h1;simp only[List.nil_append]at h1;rw[h8]at h7;rw[h1]at h7;simp at h7;omega);·simp only[List.cons_append,List.cons.injEq]at h1;obtain⟨rfl,rfl⟩:=h1;rw[List.cons_append,itemsP_at,if_neg hx];exact h2 r'
theorem itemsP_fuel:∀n ts,ts.length<n→itemsP n ts=itemsP (ts.length+1) ts:=by
 have key:∀k n m ts,ts.length<k→ts.length<n→ts.length<m→itemsP n ts=itemsP m ts:=by
  intro k
  induction k with
  |zero=>intro n m ts h;omega
  |succ k ih=>intro n m ts h hn hm;rcases ts with _|⟨x,ts⟩;(·rw[itemsP_nil,itemsP_nil]);·obtain⟨n,rfl⟩:∃n',n=n'+1:=⟨n-1,by omega⟩;obtain⟨m,rfl⟩:∃m',m=m'+1:=⟨m-1,by omega⟩;rw[itemsP_at,itemsP_at];by_cases hx:(x.text==sClose)=true;(·rw[if_pos hx,if_pos hx]);·rw[if_neg hx,if_neg hx];rcases hp:itemP (x::ts)with e|⟨c,r⟩;(·rfl);·have hl:=itemP_len hp;show andP (itemsP n r) _=andP (itemsP m r) _;rw[ih n m r (by simp at h hl;omega) (by simp at hn hl;omega) (by simp at hm hl;omega)]
 exact fun n ts h=>key (ts.length+1) n _ ts (by omega) h (by omega)
theorem itemsF_shut:Shut (fun ts=>itemsP (ts.length+1) ts):=fuel_shut itemsP_shut itemsP_fuel
theorem bodyT_look(k:Nat)(o:Int):Look (bodyT k o):=by unfold bodyT;refine Look.ite ?_ (Look.ite ?_ (Look.ite ?_ (Look.ite ?_ ?_)));(·exact nameP_shut.look.and fun n=>(wantP_shut _).look.and fun _=>itemsF_shut.look.and fun l=>Look.pure _);(·exact scopeP_shut.look.and fun d=>numP_shut.look.and fun i=>(wantP_shut _).look.and fun _=>numP_shut.look.and fun a=>(wantP_shut _).look.and fun _=>numP_shut.look.and fun b=>Look.pure _);(·exact scopeP_shut.look.and fun d=>numP_shut.look.and fun i=>Look.pure _);(·exact numP_shut.look.and fun a=>Look.pure _);·exact(wantP_shut _).look.and fun _=>numP_shut.look.and fun i=>(wantP_shut _).look.and fun _=>numP_shut.look.and fun a=>Look.pure _
theorem bodyT1_shut(o:Int):Shut (bodyT 1 o):=by have:bodyT 1 o=fun ts=>andP (nameP ts) fun n r=>andP (wantP sOpen r) fun _ r=>andP (itemsP (r.length+1) r) fun l r=>.ok (.mk 1 [n] 0 0 0 0 l o,r):=rfl;rw[this];exact nameP_shut.and fun n=>(wantP_shut _).and fun _=>itemsF_shut.map _
def tailT(k:Nat)(o:Int)(ts:List Tok):PR Cl:=if k=1 then bodyT 1 o ts else semiP (bodyT k o ts)
theorem tailT_shut(k:Nat)(o:Int):Shut (tailT k o):=by by_cases h:k=1;(·(have:tailT k o=bodyT 1 o:=by funext ts;unfold tailT;rw[if_pos h]);rw[this];exact bodyT1_shut o);·(have:tailT k o=fun ts=>semiP (bodyT k o ts):=by funext ts;unfold tailT;rw[if_neg h]);rw[this];exact semi_shut (bodyT_look k o)
theorem topP_at(x:Tok)(r:List Tok):topP (x::r)=if topK x.text=0 then .error (x::r)else tailT (topK x.text) x.off r:=rfl
theorem topP_len{ts:List Tok}{c:Cl}{r:List Tok}(e:topP ts=.ok (c,r)):r.length<ts.length:=by rcases ts with _|⟨x,ts⟩;(·cases e);·rw[topP_at]at e;by_cases hx:topK x.text=0;(·rw[if_pos hx]at e;cases e);·rw[if_neg hx]at e;obtain⟨u,h1,_⟩:=(tailT_shut (topK x.text) x.off).ok ts c r e;rw[h1];simp;omega
theorem clausesP_at(n:Nat)(t:Tok)(r:List Tok):clausesP (n+1) (t::r)=andP (topP (t::r)) fun c r=>andP (clausesP n r) fun l r=>.ok (c::l,r):=rfl
theorem clausesP_nil(n:Nat):clausesP n []=.ok ([],[]):=by cases n<;>rfl
theorem clausesP_fuel:∀n ts,ts.length<n→clausesP n ts=clausesP (ts.length+1) ts:=by
 have key:∀k n m ts,ts.length<k→ts.length<n→ts.length<m→clausesP n ts=clausesP m ts:=by
  intro k
  induction k with
  |zero=>intro n m ts h;omega
  |succ k ih=>intro n m ts h hn hm;rcases ts with _|⟨x,ts⟩;(·rw[clausesP_nil,clausesP_nil]);·obtain⟨n,rfl⟩:∃n',n=n'+1:=⟨n-1,by omega⟩;obtain⟨m,rfl⟩:∃m',m=m'+1:=⟨m-1,by omega⟩;rw[clausesP_at,clausesP_at];rcases hp:topP (x::ts)with e|⟨c,r⟩;(·rfl);·have hl:=topP_len hp;show andP (clausesP n r) _=andP (clausesP m r) _;rw[ih n m r (by simp at h hl;omega) (by simp at hn hl;omega) (by simp at hm hl;omega)]
 exact fun n ts h=>key (ts.length+1) n _ ts (by omega) h (by omega)
def allP(ts:List Tok):PR (List Cl):=clausesP (ts.length+1) ts
theorem allP_cons(x:Tok)(ts:List Tok):allP (x::ts)=andP (topP (x::ts)) fun c r=>andP (allP r) fun l r=>.ok (c::l,r):=by show andP (topP (x::ts)) (fun c r=>andP (clausesP (x::ts).length r) fun l r=>.ok (c::l,r))=_;rcases hp:topP (x::ts)with e|⟨c,r⟩;(·rfl);·have hl:=topP_len hp;show andP (clausesP _ r) _=andP (allP r) _;rw[clausesP_fuel _ r hl];rfl
end Go.Proofs.YtikepaanbnfpcaaGreatDoor
