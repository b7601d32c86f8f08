/- Parts of the proof: CkAr. -/
import Derived.Test.YtikepaanbnfpcaaGreatDoorK31
import Derived.Test.YtikepaanbnfpcaaGreatDoorK05
import Derived.Test.YtikepaanbnfpcaaGreatDoorMac
set_option linter.unusedVariables false
set_option maxRecDepth 100000
set_option maxHeartbeats 16000000
namespace Go.Proofs.YtikepaanbnfpcaaGreatDoor
open Go.RowKit Go.ChangeShapes Go.WideShapes Go.Deep
section
variable{H:Type}{enc:TypeId×Value→H}{W:World}
theorem rows_of{α:Type}{k:Nat}{D:Nat→Prop}{v:Value}{f:α→List Value}{xs:List α}{css:Nat→List Value}(h:SlH D W v xs.length k (fun i j=>((css i)[j]?).getD undef))(hc:∀i(hi:i<xs.length),css i=f xs[i]):SlR D W v k (xs.map f):=by unfold SlR;rw[List.length_map];refine h.congr fun i hi j _=>?_;rw[hc i hi,List.getD_eq_getElem?_getD (l:=xs.map f),List.getElem?_map,List.getElem?_eq_getElem hi,List.getD_eq_getElem?_getD];rfl
theorem cells_ints:Tryz.prog.cellsOf 3=1:=Zw
theorem flat_ints{n:Nat}{v:Value}{y:DataW H×List MemPlace}(h:DataW.trod enc Tryz.prog W 0 (fun _=>true) true n 72 [v]=some y)(hw:WB 72 y.1):∃l:List (Int),SlR (fun b=>b<W.heap.size) W v 1 (intR l)∧(∀p∈l,In64 p)∧l.length≤17592186044416:=by obtain⟨xs,css,h1,h2,h3⟩:=open_rowsF (α:=Int) (by_:=8) (fun p cs=>cs=[.int .i64 p]∧(In64 p)) Tryz.underlying72 cells_ints (by omega) Zw (fun n _ cs y h _=>by have h0:=h;obtain⟨z0,e0,_,w0⟩:=DataW.trod_int Tryz.underlying3 h0;exact⟨z0,e0,wf_i64 w0⟩) h hw;exact Zbp
theorem cells_feeds:Tryz.prog.cellsOf 37=1:=Zw
theorem flat_feeds{n:Nat}{v:Value}{y:DataW H×List MemPlace}(h:DataW.trod enc Tryz.prog W 0 (fun _=>true) true n 22 [v]=some y)(hw:WB 22 y.1):∃l:List (Int),SlR (fun b=>b<W.heap.size) W v 1 (intR l)∧(∀p∈l,In64 p)∧l.length≤17592186044416:=by obtain⟨xs,css,h1,h2,h3⟩:=open_rowsF (α:=Int) (by_:=8) (fun p cs=>cs=[.int .i64 p]∧(In64 p)) Tryz.underlying22 cells_feeds (by omega) Zw (fun n _ cs y h _=>by obtain⟨xs,m,rfl,rfl,hl,hlen,hf⟩:=DataW.trod_struct Tryz.underlying37 h;match xs,hlen with|[y0],_=>have h0:=hf 0 _ rfl;match cs,hl.trans cells_feeds with|[c0],_=>simp[cells_int]at h0;obtain⟨z0,e0,_,w0⟩:=DataW.trod_int Tryz.underlying3 h0;(obtain rfl:c0=.int .i64 z0:=by simpa using e0);exact⟨z0,rfl,wf_i64 w0⟩) h hw;exact Zbp
theorem cells_caps:Tryz.prog.cellsOf 39=2:=Zw
theorem flat_caps{n:Nat}{v:Value}{y:DataW H×List MemPlace}(h:DataW.trod enc Tryz.prog W 0 (fun _=>true) true n 23 [v]=some y)(hw:WB 23 y.1):∃l:List (Int×Int),SlR (fun b=>b<W.heap.size) W v 2 (pairR l)∧(∀p∈l,In64 p.1∧In64 p.2)∧l.length≤17592186044416:=by obtain⟨xs,css,h1,h2,h3⟩:=open_rowsF (α:=Int×Int) (by_:=16) (fun p cs=>cs=[.int .i64 p.1,.int .i64 p.2]∧(In64 p.1∧In64 p.2)) Tryz.underlying23 cells_caps (by omega) Zw (fun n _ cs y h _=>by obtain⟨xs,m,rfl,rfl,hl,hlen,hf⟩:=DataW.trod_struct Tryz.underlying39 h;match xs,hlen with|[y0,y1],_=>have h0:=hf 0 _ rfl;have h1:=hf 1 _ rfl;match cs,hl.trans cells_caps with|[c0,c1],_=>simp[cells_int]at h0 h1;obtain⟨z0,e0,_,w0⟩:=DataW.trod_int Tryz.underlying3 h0;(obtain rfl:c0=.int .i64 z0:=by simpa using e0);obtain⟨z1,e1,_,w1⟩:=DataW.trod_int Tryz.underlying3 h1;(obtain rfl:c1=.int .i64 z1:=by simpa using e1);exact⟨(z0,z1),rfl,⟨wf_i64 w0,wf_i64 w1⟩⟩) h hw;exact Zbp
theorem open_feeds{base:Nat}{v:Value}{d:DataW H}{p:List MemPlace}(hv:Value.okWide Tryz.prog W .any base 22 v)(h:DataW.Trod enc Tryz.prog W 0 (fun _=>true) true 22 v d p)(hw:WB 22 d):∃l:List (Int),SlR (fun b=>b<W.heap.size) W v 1 (intR l)∧(∀p∈l,In64 p)∧l.length≤17592186044416:=by obtain⟨a0,len0,cap0,rfl⟩:=okWide_slice Tryz.underlying22 hv;obtain⟨fuel,hf⟩:=h;(have hf:DataW.trod enc Tryz.prog W 0 (fun _=>true) true fuel 22 [.slice a0 len0 cap0]=some (d,p):=by simpa[Value.cells]using hf);exact flat_feeds hf hw
theorem open_caps{base:Nat}{v:Value}{d:DataW H}{p:List MemPlace}(hv:Value.okWide Tryz.prog W .any base 23 v)(h:DataW.Trod enc Tryz.prog W 0 (fun _=>true) true 23 v d p)(hw:WB 23 d):∃l:List (Int×Int),SlR (fun b=>b<W.heap.size) W v 2 (pairR l)∧(∀p∈l,In64 p.1∧In64 p.2)∧l.length≤17592186044416:=by obtain⟨a0,len0,cap0,rfl⟩:=okWide_slice Tryz.underlying23 hv;obtain⟨fuel,hf⟩:=h;(have hf:DataW.trod enc Tryz.prog W 0 (fun _=>true) true fuel 23 [.slice a0 len0 cap0]=some (d,p):=by simpa[Value.cells]using hf);exact flat_caps hf hw
end
end Go.Proofs.YtikepaanbnfpcaaGreatDoor
