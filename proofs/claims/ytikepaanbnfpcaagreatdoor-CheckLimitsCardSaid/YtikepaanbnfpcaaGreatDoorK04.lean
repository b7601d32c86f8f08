/- Parts of the proof: SyM, SyE, SyW1, SyW3. -/
import Derived.Test.YtikepaanbnfpcaaGreatDoorK02
import Derived.Test.YtikepaanbnfpcaaGreatDoorK03
import Derived.Maps.AppendAt
import Derived.Lib.Hide
import Derived.OwnWalk
import Derived.Test.YtikepaanbnfpcaaGreatDoorMac
import Derived.Lib.SmallJoins
import Derived.Deep.LoopGhost
import Derived.Deep.QuietTactic
import Derived.BigQuiet
import Derived.BigRegion
import Derived.Deep.CutBlock
import Derived.Deep.DeepCutAuto
import Derived.Deep.RegionHeld3
import Derived.Deep.RegionLaw
import Derived.Deep.RegionWith
import Derived.Shelf.Abstract
set_option linter.unusedVariables false
set_option linter.unusedSimpArgs false
set_option maxRecDepth 100000
set_option maxHeartbeats 16000000
namespace Go.Proofs.YtikepaanbnfpcaaGreatDoor
open Go.RowKit
structure Fx(S:Nat→Prop)(w W:World):Prop where
 os:W.os=w.os
 tape:W.tape=w.tape
 output:W.output=w.output
 size:w.heap.size≤W.heap.size
 block:∀b,b<w.heap.size→¬S b→W.heap[b]?=w.heap[b]?
section
variable{S:Nat→Prop}{w W W':World}
theorem Fx.refl(S:Nat→Prop)(w:World):Fx S w w:=⟨rfl,rfl,rfl,Nat.le_refl _,fun _ _ _=>rfl⟩
theorem Fx.of_below(h:Below w.heap.size w W):Fx S w W:=⟨h.os,h.tape,h.output,h.size,fun b hb _=>h.block b hb⟩
theorem Fx.trans(h:Fx S w W)(k:Fx S W W'):Fx S w W':=⟨k.os.trans h.os,k.tape.trans h.tape,k.output.trans h.output,Nat.le_trans h.size k.size,fun b hb hs=>(k.block b (Nat.lt_of_lt_of_le hb h.size) hs).trans (h.block b hb hs)⟩
theorem Fx.mono{T:Nat→Prop}(h:Fx S w W)(hT:∀b,S b→T b):Fx T w W:=⟨h.os,h.tape,h.output,h.size,fun b hb hs=>h.block b hb fun h=>hs (hT b h)⟩
theorem Fx.below(h:Fx S w W)(hb:Below W.heap.size W W'):Fx S w W':=h.trans (Fx.of_below hb)
theorem Fx.new{T:Nat→Prop}(h:Fx S w W)(k:Fx T W W')(hT:∀b,T b→S b∨w.heap.size≤b):Fx S w W':=⟨k.os.trans h.os,k.tape.trans h.tape,k.output.trans h.output,Nat.le_trans h.size k.size,fun b hb hs=>(k.block b (Nat.lt_of_lt_of_le hb h.size) (fun e=>(hT b e).elim hs (fun e=>by omega))).trans (h.block b hb hs)⟩
theorem Fx.toBelow{B:Nat}(h:Fx S w W)(hB:B≤w.heap.size)(hS:∀b,S b→B≤b):Below B w W:=⟨h.os,h.tape,h.output,h.size,fun b hb=>h.block b (by omega) fun hs=>by have:=hS b hs;omega⟩
theorem Fx.grown{row:Option Nat}(h:w.grownBy W row):Fx (fun b=>some b=row) w W:=⟨h.os,h.tape,h.output,h.size,fun b hb hs=>h.block b hb hs⟩
theorem Fx.cell{b o:Nat}{v:Value}(hf:Fx S w W)(h:w.cell? ⟨b,o,none⟩=some v)(hb:¬S b):W.cell? ⟨b,o,none⟩=some v:=(World.cell?_of_block (hf.block b (World.block_lt_of_cell? w ⟨b,o,none⟩ h) hb)).trans h
theorem Box.fx{b:Nat}{cs:Array Value}{t:TypeId}(h:Box w b cs t)(hf:Fx S w W)(hb:¬S b):Box W b cs t:=(hf.block b h.lt hb).trans h
theorem Fx.set(w:World)(b o:Nat)(u:Value):Fx (fun g=>g=b) w (w.setCell ⟨b,o,none⟩ u):=⟨rfl,rfl,rfl,by simp[World.setCell],fun k hk hs=>Below.heap_setCell w ⟨b,o,none⟩ u k hs⟩
theorem Fx.alloc(h:Fx S w W)(o:Obj):Fx S w (W.alloc o):=h.below (Zr.alloc (Nat.le_refl _) o)
theorem Fx.drew(h:Fx S w W):Fx S w W.drew:=⟨h.os,h.tape,h.output,h.size,h.block⟩
end
def SlH(D:Nat→Prop)(w:World)(v:Value)(n k:Nat)(f:Nat→Nat→Value):Prop:=∃(a:Option Addr)(cap:Nat),v=.slice a n cap∧n≤cap∧cap≤9223372036854775807∧(a=none→cap=0)∧(0<n→∃b off,a=some ⟨b,off,none⟩∧D b∧b<w.heap.size∧∀i,i<n→∀j,j<k→w.cell? ⟨b,off+i*k+j,none⟩=some (f i j))
section
variable{D D' S:Nat→Prop}{w W:World}{v:Value}{n k:Nat}{f:Nat→Nat→Value}
theorem SlH.fx(h:SlH D w v n k f)(hf:Fx S w W)(hd:∀b,D b→b<w.heap.size→¬S b):SlH D W v n k f:=by obtain⟨a,cap,h1,h2,h3,h4,h5⟩:=h;refine⟨a,cap,h1,h2,h3,h4,fun hn=>?_⟩;obtain⟨b,off,e,hD,hlt,hc⟩:=h5 hn;exact⟨b,off,e,hD,Nat.lt_of_lt_of_le hlt hf.size,fun i hi j hj=>hf.cell (hc i hi j hj) (hd b hD hlt)⟩
theorem SlH.mono(h:SlH D w v n k f)(hd:∀b,D b→b<w.heap.size→D' b):SlH D' w v n k f:=by obtain⟨a,cap,h1,h2,h3,h4,h5⟩:=h;refine⟨a,cap,h1,h2,h3,h4,fun hn=>?_⟩;obtain⟨b,off,e,hD,hlt,hc⟩:=h5 hn;exact⟨b,off,e,hd b hD hlt,hlt,hc⟩
theorem SlH.after(h:SlH D w v n k f)(hb:Below w.heap.size w W):SlH D W v n k f:=h.fx (S:=fun _=>False) (Fx.of_below hb) (fun _ _ _ e=>e)
theorem SlH.nil(D:Nat→Prop)(w:World)(k:Nat)(f:Nat→Nat→Value):SlH D w (.slice none 0 0) 0 k f:=⟨none,0,rfl,by omega,by omega,fun _=>rfl,fun h=>by omega⟩
theorem SlH.shape(h:SlH D w v n k f):∃a cap,v=.slice a n cap∧n≤cap∧cap≤9223372036854775807∧(a=none→cap=0):=by obtain⟨a,cap,h1,h2,h3,h4,_⟩:=h;exact⟨a,cap,h1,h2,h3,h4⟩
theorem SlH.at_(h:SlH D w v n k f)(hn:0<n):∃b off cap,v=.slice (some ⟨b,off,none⟩) n cap∧n≤cap∧cap≤9223372036854775807∧D b∧b<w.heap.size∧∀i,i<n→∀j,j<k→w.cell? ⟨b,off+i*k+j,none⟩=some (f i j):=by obtain⟨a,cap,h1,h2,h3,_,h5⟩:=h;obtain⟨b,off,e,hD,hlt,hc⟩:=h5 hn;exact⟨b,off,cap,by rw[h1,e],h2,h3,hD,hlt,hc⟩
end
def tokV(t:Tok):Value:=.agg #[.int .u8 (t.kind:Int),.string (bs t.text),.int .i64 t.num,.int .i64 t.off]
def tokC(t:Tok)(j:Nat):Value:=(cellsOf t).getD j undef
def SlT(D:Nat→Prop)(w:World)(v:Value)(ts:List Tok):Prop:=(∀t∈ts,TokOk t)∧SlH D w v ts.length 4 (fun i j=>tokC (tok ts i) j)
section
variable{D S:Nat→Prop}{w W:World}{v:Value}{ts:List Tok}
theorem SlT.fx(h:SlT D w v ts)(hf:Fx S w W)(hd:∀b,D b→b<w.heap.size→¬S b):SlT D W v ts:=⟨h.1,h.2.fx hf hd⟩
theorem SlK.slT(h:SlK w v ts):SlT (fun b=>b<w.heap.size) w v ts:=by obtain⟨h0,a,cap,h1,h2,h3,h5,h6⟩:=h;refine⟨h0,a,cap,h1,h2,h3,h5,fun hl=>?_⟩;obtain⟨b,off,ha,hlt,hc⟩:=h6 hl;refine⟨b,off,ha,hlt,hlt,fun i hi j hj=>?_⟩;obtain⟨c0,c1,c2,c3⟩:=hc i hi;match j,hj with|0,_=>exact c0|1,_=>exact c1|2,_=>exact c2|3,_=>exact c3
end
def SlN(D:Nat→Prop)(w:World)(v:Value)(l:List (List UInt8)):Prop:=(∀n∈l,n.length≤9223372036854775807)∧SlH D w v l.length 1 (fun i _=>.string (bs (l.getD i [])))
section
variable{D D' S:Nat→Prop}{w W:World}{v:Value}{l:List (List UInt8)}
theorem SlN.fx(h:SlN D w v l)(hf:Fx S w W)(hd:∀b,D b→b<w.heap.size→¬S b):SlN D W v l:=⟨h.1,h.2.fx hf hd⟩
theorem SlN.mono(h:SlN D w v l)(hd:∀b,D b→b<w.heap.size→D' b):SlN D' w v l:=⟨h.1,h.2.mono hd⟩
theorem SlN.nil(D:Nat→Prop)(w:World):SlN D w (.slice none 0 0) []:=⟨by simp,SlH.nil D w 1 _⟩
end
def cl0:Cl:=.mk 0 [] 0 0 0 0 [] 0
def clV(c:Cl)(vn vi:Value):List Value:=[.int .u8 (c.kind:Int),vn,.int .u8 (c.dom:Int),.int .i64 c.idx,.int .i64 c.a,.int .i64 c.b,vi,.int .i64 c.off]
def nums(c:Cl):Prop:=c.kind<256∧c.dom<256∧In64 c.idx∧In64 c.a∧In64 c.b∧In64 c.off
def uu:Value×Value:=(undef,undef)
def clF(us:List (Value×Value))(l:List Cl)(i j:Nat):Value:=(clV (l.getD i cl0) (us.getD i uu).1 (us.getD i uu).2).getD j undef
mutual def HasC(D:Nat→Prop)(w:World)(vn vi:Value):Cl→Prop|.mk k n d i a b l o=>nums (.mk k n d i a b l o)∧SlN D w vn n∧∃us:List (Value×Value),SlH D w vi l.length 8 (clF us l)∧HasL D w us l def HasL(D:Nat→Prop)(w:World):List (Value×Value)→List Cl→Prop|[],[]=>True|u::us,c::l=>HasC D w u.1 u.2 c∧HasL D w us l|_,_=>False end
def SlC(D:Nat→Prop)(w:World)(v:Value)(l:List Cl):Prop:=∃us:List (Value×Value),SlH D w v l.length 8 (clF us l)∧HasL D w us l
def IsC(D:Nat→Prop)(w:World)(v:Value)(c:Cl):Prop:=∃vn vi,v=.agg (clV c vn vi).toArray∧HasC D w vn vi c
theorem hasC_iff{D:Nat→Prop}{w:World}{vn vi:Value}{c:Cl}:HasC D w vn vi c↔nums c∧SlN D w vn c.names∧SlC D w vi c.items:=by cases c;rw[HasC];rfl
section
variable{D D' S:Nat→Prop}{w W:World}
mutual theorem HasC.fx(hf:Fx S w W)(hd:∀b,D b→b<w.heap.size→¬S b):∀(c:Cl){vn vi:Value},HasC D w vn vi c→HasC D W vn vi c|.mk k n d i a b l o,vn,vi,h=>by rw[HasC]at h⊢;obtain⟨h1,h2,us,h3,h4⟩:=h;exact⟨h1,h2.fx hf hd,us,h3.fx hf hd,HasL.fx hf hd l h4⟩theorem HasL.fx(hf:Fx S w W)(hd:∀b,D b→b<w.heap.size→¬S b):∀(l:List Cl){us:List (Value×Value)},HasL D w us l→HasL D W us l|[],[],_=>by rw[HasL];trivial|[],_::_,h=>by rw[HasL]at h;exact h.elim;all_goals simp|_::_,[],h=>by rw[HasL]at h;exact h.elim;all_goals simp|c::l,u::us,h=>by rw[HasL]at h⊢;exact⟨HasC.fx hf hd c h.1,HasL.fx hf hd l h.2⟩end
mutual theorem HasC.mono(hd:∀b,D b→b<w.heap.size→D' b):∀(c:Cl){vn vi:Value},HasC D w vn vi c→HasC D' w vn vi c|.mk k n d i a b l o,vn,vi,h=>by rw[HasC]at h⊢;obtain⟨h1,h2,us,h3,h4⟩:=h;exact⟨h1,h2.mono hd,us,h3.mono hd,HasL.mono hd l h4⟩theorem HasL.mono(hd:∀b,D b→b<w.heap.size→D' b):∀(l:List Cl){us:List (Value×Value)},HasL D w us l→HasL D' w us l|[],[],_=>by rw[HasL];trivial|[],_::_,h=>by rw[HasL]at h;exact h.elim;all_goals simp|_::_,[],h=>by rw[HasL]at h;exact h.elim;all_goals simp|c::l,u::us,h=>by rw[HasL]at h⊢;exact⟨HasC.mono hd c h.1,HasL.mono hd l h.2⟩end
variable{v:Value}{l:List Cl}{c:Cl}
theorem SlC.fx(h:SlC D w v l)(hf:Fx S w W)(hd:∀b,D b→b<w.heap.size→¬S b):SlC D W v l:=by obtain⟨us,h1,h2⟩:=h;exact⟨us,h1.fx hf hd,HasL.fx hf hd l h2⟩
theorem SlC.mono(h:SlC D w v l)(hd:∀b,D b→b<w.heap.size→D' b):SlC D' w v l:=by obtain⟨us,h1,h2⟩:=h;exact⟨us,h1.mono hd,HasL.mono hd l h2⟩
theorem SlC.after(h:SlC D w v l)(hb:Below w.heap.size w W):SlC D W v l:=h.fx (S:=fun _=>False) (Fx.of_below hb) (fun _ _ _ e=>e)
theorem SlC.nil(D:Nat→Prop)(w:World):SlC D w (.slice none 0 0) []:=⟨[],SlH.nil D w 8 _,by rw[HasL];trivial⟩
theorem SlC.shape(h:SlC D w v l):∃a cap,v=.slice a l.length cap∧l.length≤cap∧cap≤9223372036854775807∧(a=none→cap=0):=by obtain⟨us,h1,_⟩:=h;exact h1.shape
theorem IsC.fx(h:IsC D w v c)(hf:Fx S w W)(hd:∀b,D b→b<w.heap.size→¬S b):IsC D W v c:=by obtain⟨vn,vi,e,h⟩:=h;exact⟨vn,vi,e,HasC.fx hf hd c h⟩
theorem IsC.mono(h:IsC D w v c)(hd:∀b,D b→b<w.heap.size→D' b):IsC D' w v c:=by obtain⟨vn,vi,e,h⟩:=h;exact⟨vn,vi,e,HasC.mono hd c h⟩
theorem HasL.len:∀{l:List Cl}{us:List (Value×Value)},HasL D w us l→us.length=l.length|[],[],_=>rfl|[],_::_,h=>by rw[HasL]at h;exact h.elim;all_goals simp|_::_,[],h=>by rw[HasL]at h;exact h.elim;all_goals simp|c::l,u::us,h=>by rw[HasL]at h;simp[HasL.len h.2]
theorem HasL.at_:∀{l:List Cl}{us:List (Value×Value)},HasL D w us l→∀i,i<l.length→HasC D w (us.getD i uu).1 (us.getD i uu).2 (l.getD i cl0)
 |[],_,_,i,hi=>by simp at hi
 |_::_,[],h,_,_=>by rw[HasL]at h;exact h.elim;all_goals simp
 |c::l,u::us,h,i,hi=>by
  rw[HasL]at h
  cases i with
  |zero=>exact h.1
  |succ i=>exact HasL.at_ h.2 i (by simpa using hi)
theorem HasL.snoc:∀{l:List Cl}{us:List (Value×Value)},HasL D w us l→∀{c:Cl}{u:Value×Value},HasC D w u.1 u.2 c→HasL D w (us++[u]) (l++[c])|[],[],_,c,u,h=>by rw[List.nil_append,List.nil_append,HasL];exact⟨h,by rw[HasL];trivial⟩|[],_::_,h,_,_,_=>by rw[HasL]at h;exact h.elim;all_goals simp|_::_,[],h,_,_,_=>by rw[HasL]at h;exact h.elim;all_goals simp|d::l,x::us,h,c,u,k=>by rw[HasL]at h;rw[List.cons_append,List.cons_append,HasL];exact⟨h.1,HasL.snoc h.2 k⟩
theorem SlC.at_(h:SlC D w v l)(h0:0<l.length):∃b off cap,v=.slice (some ⟨b,off,none⟩) l.length cap∧l.length≤cap∧cap≤9223372036854775807∧D b∧b<w.heap.size∧∀i,i<l.length→∃vn vi,HasC D w vn vi (l.getD i cl0)∧w.cell? ⟨b,off+i*8,none⟩=some (.int .u8 ((l.getD i cl0).kind:Int))∧w.cell? ⟨b,off+i*8+1,none⟩=some vn∧w.cell? ⟨b,off+i*8+2,none⟩=some (.int .u8 ((l.getD i cl0).dom:Int))∧w.cell? ⟨b,off+i*8+3,none⟩=some (.int .i64 (l.getD i cl0).idx)∧w.cell? ⟨b,off+i*8+4,none⟩=some (.int .i64 (l.getD i cl0).a)∧w.cell? ⟨b,off+i*8+5,none⟩=some (.int .i64 (l.getD i cl0).b)∧w.cell? ⟨b,off+i*8+6,none⟩=some vi∧w.cell? ⟨b,off+i*8+7,none⟩=some (.int .i64 (l.getD i cl0).off):=by obtain⟨us,h1,h2⟩:=h;obtain⟨b,off,cap,e,e1,e2,hD,hlt,hc⟩:=h1.at_ h0;refine⟨b,off,cap,e,e1,e2,hD,hlt,fun i hi=>⟨_,_,h2.at_ i hi,?_⟩⟩;have z:=hc i hi;exact⟨z 0 (by omega),z 1 (by omega),z 2 (by omega),z 3 (by omega),z 4 (by omega),z 5 (by omega),z 6 (by omega),z 7 (by omega)⟩
end
def OwnC(w:World)(base:Nat)(e:TypeId)(k:Nat)(v:Value)(rows:List (List Value)):Prop:=(∀r∈rows,r.length=k)∧w.ownsRow base e k v rows.length rows.flatten
theorem flat_at{k:Nat}:∀{rows:List (List Value)},(∀r∈rows,r.length=k)→∀i,i<rows.length→∀j,j<k→rows.flatten[i*k+j]?=(rows.getD i [])[j]?|[],_,i,hi,_,_=>by simp at hi|r::rows,h,0,_,j,hj=>by have hr:=h r (by simp);rw[List.flatten_cons,List.getElem?_append_left (by omega)];simp|r::rows,h,i+1,hi,j,hj=>by have hr:=h r (by simp);rw[List.flatten_cons,List.getElem?_append_right (by rw[hr,Nat.add_mul];omega)];(have:(i+1)*k+j-r.length=i*k+j:=by rw[hr,Nat.add_mul];omega);rw[this,flat_at (fun r hr=>h r (by simp[hr])) i (by simpa using hi) j hj];simp
section
variable{w W:World}{base:Nat}{e:TypeId}{k:Nat}{v:Value}{rows:List (List Value)}{S:Nat→Prop}
theorem OwnC.nil(w:World)(base:Nat)(e:TypeId)(k:Nat):OwnC w base e k (.slice none 0 0) []:=⟨by simp,World.ownsRow_nil _ _ _ _⟩
def ofRow(base:Nat)(v:Value)(b:Nat):Prop:=base≤b∧some b=v.ownBlock
theorem OwnC.slh(h:OwnC w base e k v rows):SlH (ofRow base v) w v rows.length k (fun i j=>(rows.getD i []).getD j undef):=by obtain⟨h0,h1,h2⟩:=h;rcases h2 with⟨rfl,e'⟩|⟨g,cap,cur,rfl,hge,hg,h3,h4,h5,h6⟩;(·rw[e'];exact SlH.nil _ w k _);·refine⟨some ⟨g,0,none⟩,cap,rfl,h3,by simpa[maxLen]using h4,(fun h=>by cases h),fun _=>⟨g,0,rfl,⟨hge,rfl⟩,(Array.getElem?_eq_some_iff.1 hg).1,fun i hi j hj=>?_⟩⟩;have hc:=cell_of_row w g (0+i*k+j) cur _ (0,0) hg;(have hlt:i*k+j<rows.length*k:=by have:(i+1)*k≤rows.length*k:=Nat.mul_le_mul_right k hi;rw[Nat.add_mul]at this;omega);rw[hc,←Array.getElem?_toList,Nat.zero_add];(have h7:(cur.toList.take (rows.length*k))[i*k+j]?=rows.flatten[i*k+j]?:=by rw[h6]);rw[List.getElem?_take,if_pos hlt,flat_at h0 i hi j hj]at h7;rw[h7];(have hr:(rows.getD i []).length=k:=by rw[List.getD_eq_getElem?_getD,List.getElem?_eq_getElem hi];exact h0 _ (List.getElem_mem hi));dsimp only;rw[List.getElem?_eq_getElem (by omega),List.getD_eq_getElem?_getD (l:=rows.getD i []),List.getElem?_eq_getElem (by omega)];rfl
theorem OwnC.fx(h:OwnC w base e k v rows)(hf:Fx S w W)(hS:∀b,S b→¬ofRow base v b):OwnC W base e k v rows:=by obtain⟨h0,h1,h2⟩:=h;refine⟨h0,h1,?_⟩;rcases h2 with h2|⟨g,cap,cur,rfl,hge,hg,h3⟩;(·exact .inl h2);·exact .inr ⟨g,cap,cur,rfl,hge,(hf.block g (Array.getElem?_eq_some_iff.1 hg).1 (fun e=>hS g e ⟨hge,rfl⟩)).trans hg,h3⟩
theorem OwnC.after(h:OwnC w base e k v rows)(hb:Below w.heap.size w W):OwnC W base e k v rows:=h.fx (S:=fun _=>False) (Fx.of_below hb) (fun _ e=>e.elim)
theorem OwnC.shape(h:OwnC w base e k v rows):∃p c,v=.slice p rows.length c∧rows.length≤c∧c≤9223372036854775807∧(p=none→c=0):=h.slh.shape
theorem OwnC.lt(h:OwnC w base e k v rows):∀b,some b=v.ownBlock→base≤b∧b<w.heap.size:=by intro b hb;rcases h.2.2 with⟨rfl,_⟩|⟨g,cap,cur,rfl,hge,hg,_⟩;(·simp[Value.ownBlock]at hb);·simp[Value.ownBlock]at hb;subst hb;exact⟨hge,(Array.getElem?_eq_some_iff.1 hg).1⟩
end
theorem run_appC(w:World)(base:Nat)(t ty e:TypeId)(k bytes:Nat)(z:Value)(ht:Tryz.prog.underlying t=some (.slice e))(hi:(Tryz.prog.info? e).map (fun i=>(i.zero,i.size,i.bytes))=some (some z,k,bytes))(hzs:z.cells.size=k)(hk:0<k)(hby:bytes≤1000)(v:Value)(rows:List (List Value))(row:List Value)(hown:OwnC w base e k v rows)(hrow:row.length=k)(h1:∀u∈row,u.oneCell'=true)(ad:Addr)(c:Nat)(hnews:∀j u,row[j]?=some u→w.cell? (ad.add j)=some u)(hl:rows.length≤1000000)(hbase:base≤w.heap.size):∃v' w',(Builtin.append_ #[t,t] ty #[v,.slice (some ad) 1 c]).run Tryz.prog w=.ok v' w'∧OwnC w' base e k v' (rows++[row])∧Fx (fun b=>some b=v.ownBlock) w w'∧(v'.ownBlock=v.ownBlock∨v'.ownBlock=some w.heap.size):=by obtain⟨i0,hi',hz0,hz1,hz2⟩:=info_parts hi;obtain⟨v',w',hr,q1,q2,q3,q4⟩:=run_append_own_at (P:=Tryz.prog) w base t ty e i0 z k bytes ht hi' hz0 hz1 hz2 hzs hk v rows.length _ hown.2 ad 1 c row (by omega) hnews h1 (by have:maxLen=9223372036854775807:=rfl;omega) (by have:(rows.length+1)*bytes≤1000001*1000:=Nat.mul_le_mul (by omega) hby;omega) hbase;refine⟨v',w',hr,⟨fun r hr=>?_,?_⟩,Fx.grown q2,q4⟩;(·rcases List.mem_append.1 hr with h|h;(·exact hown.1 r h);·rw[List.mem_singleton.1 h];exact hrow);·rw[List.length_append,List.flatten_append];simpa using q1
theorem ownsRow_put{w:World}{base n size i g:Nat}{t:TypeId}{v u:Value}{xs:List Value}(h:w.ownsRow base t size v n xs)(hg:v.ownBlock=some g):(w.setCell ⟨g,i,none⟩ u).ownsRow base t size v n (xs.set i u):=by obtain⟨h1,h2⟩:=h;refine⟨by rw[List.length_set,h1],?_⟩;rcases h2 with⟨rfl,_⟩|⟨g',cap,cur,rfl,hge,hb,h3,h4,h5,h6⟩;(·cases hg);·(obtain rfl:g'=g:=by simpa[Value.ownBlock]using hg);refine .inr ⟨g',cap,cur.setIfInBounds i u,rfl,hge,?_,h3,h4,by simpa using h5,?_⟩;(·have:Box w g' cur t:=hb;exact this.set i u);·rw[Array.toList_setIfInBounds,List.take_set,h6]
theorem set_last{xs:List Value}{m:Nat}(hm:xs.length=m)(z:List Value)(j:Nat)(u:Value):(xs++z).set (m+j) u=xs++z.set j u:=by subst hm;rw[List.set_append_right _ _ (by omega)];congr 2;omega
theorem OwnC.put8{w:World}{base g:Nat}{e:TypeId}{v:Value}{rows:List (List Value)}{z0 z1 z2 z3 z4 z5 z6 z7 a0 a1 a2 a3 a4 a5 a6 a7:Value}(h:OwnC w base e 8 v (rows++[[z0,z1,z2,z3,z4,z5,z6,z7]]))(hg:v.ownBlock=some g):OwnC ((((((((w.setCell ⟨g,rows.length*8,none⟩ a0).setCell ⟨g,rows.length*8+1,none⟩ a1).setCell ⟨g,rows.length*8+2,none⟩ a2).setCell ⟨g,rows.length*8+3,none⟩ a3).setCell ⟨g,rows.length*8+4,none⟩ a4).setCell ⟨g,rows.length*8+5,none⟩ a5).setCell ⟨g,rows.length*8+6,none⟩ a6).setCell ⟨g,rows.length*8+7,none⟩ a7) base e 8 v (rows++[[a0,a1,a2,a3,a4,a5,a6,a7]]):=by obtain⟨h0,h1⟩:=h;have hr:∀r∈rows,r.length=8:=fun r hr=>h0 r (by simp[hr]);refine⟨fun r hr'=>?_,?_⟩;(·rcases List.mem_append.1 hr' with h|h;(·exact hr r h);·rw[List.mem_singleton.1 h];rfl);·(have hl:rows.flatten.length=rows.length*8:=by have:=h1.1;rw[List.flatten_append,List.length_append,List.length_append]at this;simp at this;rw[List.length_flatten];omega);have k:=(((((((ownsRow_put (i:=rows.length*8) (u:=a0) h1 hg)))))));have k:=ownsRow_put (i:=rows.length*8+1) (u:=a1) k hg;have k:=ownsRow_put (i:=rows.length*8+2) (u:=a2) k hg;have k:=ownsRow_put (i:=rows.length*8+3) (u:=a3) k hg;have k:=ownsRow_put (i:=rows.length*8+4) (u:=a4) k hg;have k:=ownsRow_put (i:=rows.length*8+5) (u:=a5) k hg;have k:=ownsRow_put (i:=rows.length*8+6) (u:=a6) k hg;have k:=ownsRow_put (i:=rows.length*8+7) (u:=a7) k hg;rw[List.flatten_append,List.flatten_singleton]at k⊢;have e0:=set_last hl [z0,z1,z2,z3,z4,z5,z6,z7] 0 a0;rw[Nat.add_zero]at e0;rw[e0,set_last hl,set_last hl,set_last hl,set_last hl,set_last hl,set_last hl,set_last hl]at k;rw[List.length_append,List.length_singleton]at k⊢;exact k
theorem fx_set8(w:World)(g o:Nat)(a0 a1 a2 a3 a4 a5 a6 a7:Value):Fx (fun b=>b=g) w ((((((((w.setCell ⟨g,o,none⟩ a0).setCell ⟨g,o+1,none⟩ a1).setCell ⟨g,o+2,none⟩ a2).setCell ⟨g,o+3,none⟩ a3).setCell ⟨g,o+4,none⟩ a4).setCell ⟨g,o+5,none⟩ a5).setCell ⟨g,o+6,none⟩ a6).setCell ⟨g,o+7,none⟩ a7):=(((((((Fx.set w g o a0).trans (Fx.set _ g (o+1) a1)).trans (Fx.set _ g (o+2) a2)).trans (Fx.set _ g (o+3) a3)).trans (Fx.set _ g (o+4) a4)).trans (Fx.set _ g (o+5) a5)).trans (Fx.set _ g (o+6) a6)).trans (Fx.set _ g (o+7) a7)
theorem end8{w:World}{b:Nat}{x0 x1 x2 x3 x4 x5 x6 x7:Value}{t:TypeId}(h:Box w b #[x0,x1,x2,x3,x4,x5,x6,x7] t)(y0 y1 y2 y3 y4 y5 y6 y7:Value):Box ((((((((w.setCell ⟨b,0,none⟩ y0).setCell ⟨b,1,none⟩ y1).setCell ⟨b,2,none⟩ y2).setCell ⟨b,3,none⟩ y3).setCell ⟨b,4,none⟩ y4).setCell ⟨b,5,none⟩ y5).setCell ⟨b,6,none⟩ y6).setCell ⟨b,7,none⟩ y7) b #[y0,y1,y2,y3,y4,y5,y6,y7] t:=by have:=(((((((h.set 0 y0).set 1 y1).set 2 y2).set 3 y3).set 4 y4).set 5 y5).set 6 y6).set 7 y7;simpa using this
theorem kq{W w':World}{b o:Nat}{x:Option Value}{v:Value}(hb:Below W.heap.size W w')(h:W.cell? ⟨b,o,none⟩=x)(e:x=some v):w'.cell? ⟨b,o,none⟩=some v∧b<w'.heap.size:=have hk:=keep_cell hb (h.trans e);⟨hk,World.block_lt_of_cell? _ _ hk⟩
theorem Box.cells8{w:World}{b:Nat}{x0 x1 x2 x3 x4 x5 x6 x7:Value}{t:TypeId}(h:Box w b #[x0,x1,x2,x3,x4,x5,x6,x7] t):w.cell? ⟨b,0,none⟩=some x0∧w.cell? ⟨b,1,none⟩=some x1∧w.cell? ⟨b,2,none⟩=some x2∧w.cell? ⟨b,3,none⟩=some x3∧w.cell? ⟨b,4,none⟩=some x4∧w.cell? ⟨b,5,none⟩=some x5∧w.cell? ⟨b,6,none⟩=some x6∧w.cell? ⟨b,7,none⟩=some x7:=⟨h.cell 0,h.cell 1,h.cell 2,h.cell 3,h.cell 4,h.cell 5,h.cell 6,h.cell 7⟩
def rowsOf(us:List (Value×Value))(l:List Cl):List (List Value):=(us.zip l).map fun p=>clV p.2 p.1.1 p.1.2
def OwnCl(D:Nat→Prop)(w:World)(base:Nat)(v:Value)(l:List Cl):Prop:=∃us:List (Value×Value),OwnC w base 66 8 v (rowsOf us l)∧HasL D w us l
theorem rowsOf_len{us:List (Value×Value)}{l:List Cl}(h:us.length=l.length):(rowsOf us l).length=l.length:=by unfold rowsOf;rw[List.length_map,List.length_zip,h];omega
theorem rowsOf_snoc{us:List (Value×Value)}{l:List Cl}(h:us.length=l.length)(u:Value×Value)(c:Cl):rowsOf (us++[u]) (l++[c])=rowsOf us l++[clV c u.1 u.2]:=by unfold rowsOf;rw[List.zip_append h,List.map_append];rfl
theorem rowsOf_get{us:List (Value×Value)}{l:List Cl}(h:us.length=l.length){i:Nat}(hi:i<l.length):(rowsOf us l).getD i []=clV (l.getD i cl0) (us.getD i uu).1 (us.getD i uu).2:=by(have h1:i<us.length:=by omega);(have h2:i<(rowsOf us l).length:=by rw[rowsOf_len h];exact hi);rw[List.getD_eq_getElem?_getD,List.getElem?_eq_getElem h2,List.getD_eq_getElem?_getD,List.getElem?_eq_getElem hi,List.getD_eq_getElem?_getD,List.getElem?_eq_getElem h1];simp[rowsOf]
section
variable{D:Nat→Prop}{w W:World}{base:Nat}{v:Value}{l:List Cl}
theorem OwnCl.nil(D:Nat→Prop)(w:World)(base:Nat):OwnCl D w base (.slice none 0 0) []:=⟨[],OwnC.nil w base _ 8,by rw[HasL];trivial⟩
theorem OwnCl.slC(h:OwnCl D w base v l):SlC (fun b=>ofRow base v b∨D b) w v l:=by obtain⟨us,h1,h2⟩:=h;have hu:=h2.len;refine⟨us,?_,HasL.mono (fun b hb _=>.inr hb) l h2⟩;have hs:=h1.slh;rw[rowsOf_len hu]at hs;obtain⟨a,cap,e1,e2,e3,e4,e5⟩:=hs;refine⟨a,cap,e1,e2,e3,e4,fun hn=>?_⟩;obtain⟨b,off,f1,f2,f3,f4⟩:=e5 hn;refine⟨b,off,f1,.inl f2,f3,fun i hi j hj=>?_⟩;rw[f4 i hi j hj];dsimp only;rw[rowsOf_get hu hi];rfl
theorem OwnCl.fx{S:Nat→Prop}(h:OwnCl D w base v l)(hf:Fx S w W)(hS:∀b,S b→¬ofRow base v b)(hd:∀b,D b→b<w.heap.size→¬S b):OwnCl D W base v l:=by obtain⟨us,h1,h2⟩:=h;exact⟨us,h1.fx hf hS,HasL.fx hf hd l h2⟩
theorem OwnCl.shape(h:OwnCl D w base v l):∃p c,v=.slice p l.length c∧l.length≤c∧c≤9223372036854775807∧(p=none→c=0):=by obtain⟨us,h1,h2⟩:=h;have:=h1.shape;rw[rowsOf_len h2.len]at this;exact this
end
theorem infoC:(Tryz.prog.info? 66).map (fun i=>(i.zero,i.size,i.bytes))=some (some (.agg #[.int .u8 0,.slice none 0 0,.int .u8 0,.int .i64 0,.int .i64 0,.int .i64 0,.slice none 0 0,.int .i64 0]),8,96):=by kernel_rfl
theorem infoS:(Tryz.prog.info? 9).map (fun i=>(i.zero,i.size,i.bytes))=some (some (.string ⟨#[]⟩),1,16):=by kernel_rfl
def OwnN(w:World)(base:Nat)(v:Value)(l:List (List UInt8)):Prop:=(∀n∈l,n.length≤9223372036854775807)∧OwnC w base 9 1 v (l.map fun n=>[Value.string (bs n)])
section
variable{w W:World}{base:Nat}{v:Value}{l:List (List UInt8)}
theorem OwnN.slN(h:OwnN w base v l):SlN (ofRow base v) w v l:=by obtain⟨h0,h1⟩:=h;refine⟨h0,?_⟩;have hs:=h1.slh;rw[List.length_map]at hs;obtain⟨a,cap,e1,e2,e3,e4,e5⟩:=hs;refine⟨a,cap,e1,e2,e3,e4,fun hn=>?_⟩;obtain⟨b,off,f1,f2,f3,f4⟩:=e5 hn;refine⟨b,off,f1,f2,f3,fun i hi j hj=>?_⟩;(obtain rfl:j=0:=by omega);rw[f4 i hi 0 (by omega)];dsimp only;rw[List.getD_eq_getElem?_getD (l:=l.map _),List.getElem?_map,List.getElem?_eq_getElem hi,List.getD_eq_getElem?_getD (l:=l),List.getElem?_eq_getElem hi];rfl
theorem OwnN.fx{S:Nat→Prop}(h:OwnN w base v l)(hf:Fx S w W)(hS:∀b,S b→¬ofRow base v b):OwnN W base v l:=⟨h.1,h.2.fx hf hS⟩
theorem OwnN.shape(h:OwnN w base v l):∃p c,v=.slice p l.length c∧l.length≤c∧c≤9223372036854775807∧(p=none→c=0):=by have:=h.2.shape;rw[List.length_map]at this;exact this
theorem OwnN.one(w:World)(base:Nat)(n:List UInt8)(hn:n.length≤9223372036854775807)(hb:base≤w.heap.size):OwnN (w.alloc (.cells #[.string (bs n)] 9)) base (.slice (some ⟨w.heap.size,0,none⟩) 1 1) [n]:=⟨by simpa using hn,by simp,rfl,.inr ⟨w.heap.size,1,#[.string (bs n)],rfl,hb,heap_alloc_new w _,Nat.le_refl _,by simp[maxLen],rfl,rfl⟩⟩
end
def scopesL:List (List UInt8):=[sHost,sRack,sRow,sFeed,sLoop]
def StrsAt(N:Nat)(w:World)(g:Nat)(l:List (List UInt8)):Prop:=∃v,w.cell? ⟨g,0,none⟩=some v∧g<N∧SlN (fun b=>b<N) w v l
def DomsAt(N:Nat)(w:World)(g:Nat):Prop:=∃v,w.cell? ⟨g,0,none⟩=some v∧g<N∧SlH (fun b=>b<N) w v 5 1 (fun i _=>.int .u8 ((i+1:Nat):Int))
def Wds(N:Nat)(w:World):Prop:=StrsAt N w 3 wordsL∧StrsAt N w 1 scopesL∧DomsAt N w 2
theorem Wds.fx{S:Nat→Prop}{N:Nat}{w W:World}(h:Wds N w)(hf:Fx S w W)(hS:∀b,S b→N≤b):Wds N W:=by obtain⟨⟨v1,a1,b1,c1⟩,⟨v2,a2,b2,c2⟩,v3,a3,b3,c3⟩:=h;(have hd:∀b,b<N→b<w.heap.size→¬S b:=fun b hb _ e=>by have:=hS b e;omega);(have hg:∀g,g<N→¬S g:=fun b hb e=>by have:=hS b e;omega);exact⟨⟨v1,hf.cell a1 (hg _ b1),b1,c1.fx hf hd⟩,⟨v2,hf.cell a2 (hg _ b2),b2,c2.fx hf hd⟩,v3,hf.cell a3 (hg _ b3),b3,c3.fx hf hd⟩
theorem Wds.after{N:Nat}{w W:World}(h:Wds N w)(hb:Below w.heap.size w W):Wds N W:=h.fx (S:=fun _=>False) (Fx.of_below hb) (fun _ e=>e.elim)
def WdF(N:Nat)(w:World):Prop:=StrsAt N w 3 wordsL∧DomsAt N w 2
theorem WdF.fx{S:Nat→Prop}{N:Nat}{w W:World}(h:WdF N w)(hf:Fx S w W)(hS:∀b,S b→N≤b):WdF N W:=by obtain⟨⟨v1,a1,b1,c1⟩,v3,a3,b3,c3⟩:=h;(have hd:∀b,b<N→b<w.heap.size→¬S b:=fun b hb _ e=>by have:=hS b e;omega);(have hg:∀g,g<N→¬S g:=fun b hb e=>by have:=hS b e;omega);exact⟨⟨v1,hf.cell a1 (hg _ b1),b1,c1.fx hf hd⟩,v3,hf.cell a3 (hg _ b3),b3,c3.fx hf hd⟩
theorem WdF.after{N:Nat}{w W:World}(h:WdF N w)(hb:Below w.heap.size w W):WdF N W:=h.fx (S:=fun _=>False) (Fx.of_below hb) (fun _ e=>e.elim)
def RetB(w:World)(p:Bool)(e:Ending)(w':World):Prop:=e=.returned (.bool p)∧Below w.heap.size w w'
theorem list_bs(x:List UInt8):(bs x).toList=x:=by rw[ByteArray.toList_eq];rfl
theorem bs_eq_self(s:List UInt8):((bs s).toList==(bs s).toList)=true:=by simp
theorem bs_eq_no{s x:List UInt8}(h:¬s=x):((bs s).toList==(bs x).toList)=false:=by rw[list_bs,list_bs];simpa using h
def idxZ{α:Type}[BEq α](l:List α)(s:α):Int:=if l.idxOf s<l.length then(l.idxOf s:Int)else-1
theorem idxZ_at{α:Type}[BEq α][LawfulBEq α]{l:List α}{s d:α}{i:Nat}(hi:i<l.length)(h0:∀j,j<i→l.getD j d≠s)(h:l.getD i d=s):idxZ l s=(i:Int):=by(have e:l.idxOf s=i:=by(have hmem:s∈l:=by rw[←h,List.getD_eq_getElem?_getD,List.getElem?_eq_getElem hi];exact List.getElem_mem hi);have h1:l.idxOf s<l.length:=List.idxOf_lt_length_iff.2 hmem;have h2:l[l.idxOf s]=s:=List.getElem_idxOf h1;have h3:¬l.idxOf s<i:=fun hlt=>h0 _ hlt (by rw[List.getD_eq_getElem?_getD,List.getElem?_eq_getElem h1];exact h2);(have h4:¬i<l.idxOf s:=fun hlt=>by have:=List.not_of_lt_findIdx (p:=(·==s)) (xs:=l) (i:=i) hlt;rw[List.getD_eq_getElem?_getD,List.getElem?_eq_getElem hi]at h;simp only[Option.getD_some]at h;rw[h]at this;simp at this);omega);unfold idxZ;rw[e,if_pos hi]
theorem idxZ_none{α:Type}[BEq α][LawfulBEq α]{l:List α}{s d:α}(h0:∀j,j<l.length→l.getD j d≠s):idxZ l s=-1:=by unfold idxZ;rw[if_neg];intro h1;have h2:l[l.idxOf s]=s:=List.getElem_idxOf h1;exact h0 _ h1 (by rw[List.getD_eq_getElem?_getD,List.getElem?_eq_getElem h1];exact h2)
theorem idxZ_mem{α:Type}[BEq α][LawfulBEq α](l:List α)(s:α):decide (0≤idxZ l s)=l.contains s:=by unfold idxZ;by_cases h:s∈l;(·rw[if_pos (List.idxOf_lt_length_iff.2 h),List.contains_iff_mem.2 h];simp);·rw[if_neg (fun e=>h (List.idxOf_lt_length_iff.1 e))];(have:l.contains s=false:=by rw[←Bool.not_eq_true,List.contains_iff_mem];exact h);rw[this];rfl
theorem indexS_c(D:Nat→Prop)(w:World)(v:Value)(l:List (List UInt8))(s:List UInt8)(h:SlN D w v l):Calls Tryz.prog 139 #[v,.string (bs s)] w fun e w'=>e=.returned (.int .i64 (idxZ l s))∧Below w.heap.size w w':=by obtain⟨p,c,rfl,h1,h2,_⟩:=h.2.shape;have H:=Zh h.2;clear h;obtain⟨z,hz⟩:∃z,idxZ l s=z:=⟨_,rfl⟩;rw[hz];have HZ:=Zh hz;clear hz;go_enter Tryz.func139,Tryz.ntmps139;go_wp2_with fail;go_loopg[8]l.length(fun g t wx=>∃i:Nat,i≤l.length∧g=l.length-i∧t=.int .i64 (i:Int)∧Hid (∀j,j<i→l.getD j []≠s)∧Hid (Below w.heap.size w wx));(case atStart=>exact⟨0,Nat.zero_le _,rfl,rfl,fun j hj=>absurd hj (by omega),Below.refl _ _⟩);case round=>obtain⟨i,hi,rfl,rfl,heq,hbl⟩:=hrel;by_cases hlt:i<l.length;(·obtain⟨ba,oa,ca,ea,_,_,_,la,hca⟩:=(H.out.after hbl.out).at_ (by omega);injection ea with ea _ ec;subst ea ec;(have x0:wr.cell? ⟨ba,oa+i,none⟩=some (.string (bs (l.getD i []))):=by have:=hca i hlt 0 (by omega);simpa using this);clear hca;(have il:(i:Int)<(l.length:Int):=by omega);(have i0:(0:Int)≤(i:Int):=by omega);obtain⟨x,hx⟩:∃x,l.getD i []=x:=⟨_,rfl⟩;rw[hx]at x0;have HX:=Zh hx;clear hx;by_cases he:s=x;(·subst he;have q1:=bs_eq_self s;go_wp2_with fail;go_ret;exact⟨ret_int (by rw[←HZ.out,idxZ_at hlt heq.out HX.out]),hbl.out⟩);·have q1:=bs_eq_no he;have HE:=Zh he;clear he;go_wp2_with fail;go_roundg(l.length-(i+1));(case measure=>omega);case rel=>refine⟨i+1,by omega,rfl,by go_num,fun j hj=>?_,hbl.out⟩;rcases Nat.lt_or_ge j i with h|h;(·exact heq.out j h);·(obtain rfl:j=i:=by omega);rw[HX.out];exact fun e=>HE.out e.symm);·(obtain rfl:i=l.length:=by omega);go_wp2_with fail;go_ret;exact⟨ret_int (by rw[←HZ.out,idxZ_none heq.out]),hbl.out⟩
theorem containsS_c(D:Nat→Prop)(w:World)(v:Value)(l:List (List UInt8))(s:List UInt8)(h:SlN D w v l):Calls Tryz.prog 100 #[v,.string (bs s)] w (RetB w (l.contains s)):=by go_enter Tryz.func100,Tryz.ntmps100;go_wp2_with fail;refine(indexS_c D _ _ _ s h).mono ?_;rintro e w1⟨rfl,hb⟩;have HB:=Zh hb;clear hb;go_wp2_with fail;go_ret;exact⟨ret_bool (idxZ_mem l s),HB.out⟩
end Go.Proofs.YtikepaanbnfpcaaGreatDoor
namespace Go.Proofs.YtikepaanbnfpcaaGreatDoor
open Go.RowKit Go.Shelf
theorem beq_cast(k m:Nat):((k:Int)==(m:Int))=(k==m):=by rw[Bool.eq_iff_iff];simp;omega
theorem scoped_c(N:Nat)(w:World)(t:Tok)(hN:N≤w.heap.size)(he:Wds N w):Calls Tryz.prog 200 #[tokV t] w (RetB w (scopesL.contains t.text)):=by obtain⟨k,x,n,o⟩:=t;unfold tokV;obtain⟨W0,hW⟩:∃W0,W0=w.alloc (.cells #[.int .u8 (k:Int),.string (bs x),.int .i64 n,.int .i64 o] 164):=⟨_,rfl⟩;have HB:Hid (Below w.heap.size w W0):=hW▸held_alloc (Below.refl _ w);have bx:Box W0 w.heap.size #[.int .u8 (k:Int),.string (bs x),.int .i64 n,.int .i64 o] 164:=hW▸Box.new w _ _;obtain⟨c0,c1,c2,c3⟩:=bx.cells4;obtain⟨v,g0,_,H⟩:=(he.after HB.out).2.1;have H:=Zh H;clear he bx;obtain⟨B,hB⟩:∃B,scopesL.contains x=B:=⟨_,rfl⟩;have HE:=Zh hB;show Calls _ _ _ _ (RetB w (scopesL.contains x));rw[hB];clear hB;go_enter Tryz.func200,Tryz.ntmps200;go_upto_region 1 with fail;rw[←hW];clear hW;go_wp2_with fail;refine(containsS_c _ _ _ _ x H.out).mono ?_;rw[HE.out];rintro e w1⟨rfl,hb⟩;have HB1:=Zh (HB.out.trans (hb.mono HB.out.size));clear hb c0 c1 c2 c3 g0;go_wp2_with fail;go_ret;exact⟨rfl,HB1.out⟩
theorem named_c(N:Nat)(w:World)(t:Tok)(hN:N≤w.heap.size)(he:WdF N w):Calls Tryz.prog 138 #[tokV t] w (RetB w (namedT t)):=by obtain⟨k,x,n,o⟩:=t;unfold tokV;obtain⟨W0,hW⟩:∃W0,W0=w.alloc (.cells #[.int .u8 (k:Int),.string (bs x),.int .i64 n,.int .i64 o] 164):=⟨_,rfl⟩;have HB:Hid (Below w.heap.size w W0):=hW▸held_alloc (Below.refl _ w);have bx:Box W0 w.heap.size #[.int .u8 (k:Int),.string (bs x),.int .i64 n,.int .i64 o] 164:=hW▸Box.new w _ _;obtain⟨c0,c1,c2,c3⟩:=bx.cells4;obtain⟨v,g0,_,H⟩:=(he.after HB.out).1;have H:=Zh H;clear he bx;obtain⟨B,hB⟩:∃B,namedT ⟨k,x,n,o⟩=B:=⟨_,rfl⟩;rw[hB];unfold namedT at hB;simp only at hB;by_cases hk:k=1;(·(have HE:Hid ((!isWord x)=B):=by rw[hk]at hB;exact hB);(have q0:((k:Int)==1)=true:=by simp;omega);clear hB hk;obtain⟨C,hC⟩:∃C,wordsL.contains x=C:=⟨_,rfl⟩;unfold isWord at HE;rw[hC]at HE;have HC:=Zh hC;clear hC;go_enter Tryz.func138,Tryz.ntmps138;go_upto_region 1 with fail;rw[←hW];clear hW;go_wp2_with fail;refine(containsS_c _ _ _ _ x H.out).mono ?_;rw[HC.out];rintro e w1⟨rfl,hb⟩;have HB1:=Zh (HB.out.trans (hb.mono HB.out.size));clear hb c0 c1 c2 c3 g0;go_wp2_with fail;go_ret;exact⟨ret_bool HE.out,HB1.out⟩);·(have HE:Hid (false=B):=by rw[beq_eq_false_iff_ne.2 hk]at hB;exact hB);(have q0:((k:Int)==1)=false:=by simp;omega);clear hB;go_enter Tryz.func138,Tryz.ntmps138;go_upto_region 1 with fail;rw[←hW];clear hW;go_wp2_with fail;go_ret;exact⟨ret_bool HE.out,HB.out⟩
theorem run_mkf(fn:Fn)(first cap:Array Value)(w:World):(Instr.makeFunc fn first cap).run Tryz.prog w=.ok (.func fn first cap) w:=rfl
def haveF(s:List UInt8):List Tok→Bool×List Tok|[]=>(false,[])|t::r=>if t.text==s then(true,r)else(false,t::r)
end Go.Proofs.YtikepaanbnfpcaaGreatDoor
