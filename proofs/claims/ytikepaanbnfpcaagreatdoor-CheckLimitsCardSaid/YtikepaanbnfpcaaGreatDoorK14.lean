/- Parts of the proof: CkK. -/
import Derived.Maps.Own
import Derived.Maps.OwnOps
import Derived.Maps.Views
import Derived.Test.YtikepaanbnfpcaaGreatDoorK13
import Derived.Test.YtikepaanbnfpcaaGreatDoorMac
set_option linter.unusedVariables false
set_option linter.unusedSimpArgs false
set_option maxRecDepth 100000
set_option maxHeartbeats 16000000
namespace Go.Proofs.YtikepaanbnfpcaaGreatDoor
open Go.RowKit Go.Shelf
def DK(B p:Nat)(vn vs vw va vc:Value)(b:Nat):Prop:=B≤b∧b≠p∧¬some b=vn.ownBlock∧¬some b=vs.ownBlock∧¬some b=vw.ownBlock∧¬some b=va.ownBlock∧¬some b=vc.ownBlock
structure KX(w:World)(B p:Nat)(t:Sit)(x:Itn)(reps:Int)(pf pb pl pr pk ph:Option Addr)(cf nb cb cl cr nk ck ch:Nat)(sw:Int)(vn vs vw va vc:Value):Prop where
 box:Box w p #[.slice pf t.feeds.length cf,.slice pb nb cb,.slice pl t.loops cl,.slice pr t.racks.length cr,.int .i64 sw,.slice pk nk ck,.slice ph t.hosts ch,vn,vs,vw,va,.int .i64 x.blast,vc,.int .i64 reps] 86
 site:HasT (fun b=>b<B) w pf cf pr cr t
 names:OwnN w B vn x.names
 svcs:OwnSv (DK B p vn vs vw va vc) w B vs x.svcs
 wins:OwnC w B 100 4 vw (winR x.wins)
 apps:OwnC w B 102 2 va (areaR x.apps)
 caps:OwnC w B 39 2 vc (pairR x.caps)
 base:B≤p
section
variable{w W:World}{B p:Nat}{t:Sit}{x:Itn}{reps:Int}{pf pb pl pr pk ph:Option Addr}{cf nb cb cl cr nk ck ch:Nat}{sw:Int}{vn vs vw va vc:Value}
theorem KX.after(h:KX w B p t x reps pf pb pl pr pk ph cf nb cb cl cr nk ck ch sw vn vs vw va vc)(hb:Below w.heap.size w W):KX W B p t x reps pf pb pl pr pk ph cf nb cb cl cr nk ck ch sw vn vs vw va vc:=⟨h.box.after hb,h.site.after hb,h.names.fx (S:=fun _=>False) (Fx.of_below hb) (fun _ e=>e.elim),h.svcs.fx (S:=fun _=>False) (Fx.of_below hb) (fun _ e=>e.elim) (fun _ _ _ e=>e),h.wins.after hb,h.apps.after hb,h.caps.after hb,h.base⟩
theorem KX.apart(h:KX w B p t x reps pf pb pl pr pk ph cf nb cb cl cr nk ck ch sw vn vs vw va vc):(¬some p=vn.ownBlock∧¬some p=vs.ownBlock∧¬some p=vw.ownBlock∧¬some p=va.ownBlock∧¬some p=vc.ownBlock):=by obtain⟨us,h1,_⟩:=h.svcs;exact⟨h.names.2.notBox h.box (by decide),h1.notBox h.box (by decide),h.wins.notBox h.box (by decide),h.apps.notBox h.box (by decide),h.caps.notBox h.box (by decide)⟩
theorem KX.setBox{x':Itn}{reps':Int}{j:Nat}{u:Value}(h:KX w B p t x reps pf pb pl pr pk ph cf nb cb cl cr nk ck ch sw vn vs vw va vc)(hb:Box (w.setCell ⟨p,j,none⟩ u) p #[.slice pf t.feeds.length cf,.slice pb nb cb,.slice pl t.loops cl,.slice pr t.racks.length cr,.int .i64 sw,.slice pk nk ck,.slice ph t.hosts ch,vn,vs,vw,va,.int .i64 x'.blast,vc,.int .i64 reps'] 86)(h1:x'.names=x.names)(h2:x'.svcs=x.svcs)(h3:x'.wins=x.wins)(h4:x'.apps=x.apps)(h5:x'.caps=x.caps):KX (w.setCell ⟨p,j,none⟩ u) B p t x' reps' pf pb pl pr pk ph cf nb cb cl cr nk ck ch sw vn vs vw va vc:=by obtain⟨a1,a2,a3,a4,a5⟩:=h.apart;have hf:=Fx.set w p j u;refine⟨hb,h.site.fx hf (fun b hd _ e=>by have:=h.base;omega),?_,?_,?_,?_,?_,h.base⟩;(·rw[h1];exact h.names.fx hf (by rintro b rfl⟨_,e⟩;exact a1 e));(·rw[h2];exact h.svcs.fx hf (by rintro b rfl⟨_,e⟩;exact a2 e) (fun b hd _ e=>hd.2.1 e));(·rw[h3];exact h.wins.fx hf (by rintro b rfl⟨_,e⟩;exact a3 e));(·rw[h4];exact h.apps.fx hf (by rintro b rfl⟨_,e⟩;exact a4 e));·rw[h5];exact h.caps.fx hf (by rintro b rfl⟨_,e⟩;exact a5 e)
end
def OwnX(p:Nat)(vn vs vw va vc:Value)(b:Nat):Prop:=b=p∨some b=vn.ownBlock∨some b=vs.ownBlock∨some b=vw.ownBlock∨some b=va.ownBlock∨some b=vc.ownBlock
theorem KX.ge{w:World}{B p:Nat}{t:Sit}{x:Itn}{reps:Int}{pf pb pl pr pk ph:Option Addr}{cf nb cb cl cr nk ck ch:Nat}{sw:Int}{vn vs vw va vc:Value}(h:KX w B p t x reps pf pb pl pr pk ph cf nb cb cl cr nk ck ch sw vn vs vw va vc):∀b,OwnX p vn vs vw va vc b→B≤b:=by obtain⟨us,h1,_⟩:=h.svcs;rintro b(rfl|e|e|e|e|e);(·exact h.base);(·exact(h.names.2.lt b e).1);(·exact(h1.lt b e).1);(·exact(h.wins.lt b e).1);(·exact(h.apps.lt b e).1);·exact(h.caps.lt b e).1
def KXe(w:World)(B p:Nat)(t:Sit)(st:Itn×Int):Prop:=∃pf pb pl pr pk ph cf nb cb cl cr nk ck ch sw vn vs vw va vc,KX w B p t st.1 st.2 pf pb pl pr pk ph cf nb cb cl cr nk ck ch sw vn vs vw va vc
def RetX(S:Nat→Prop)(w:World)(B p:Nat)(t:Sit)(r:Except Er (Itn×Int))(e:Ending)(w':World):Prop:=Fx S w w'∧match r with|.error er=>e=.returned (failV er)|.ok st=>e=.returned .nilIface∧KXe w' B p t st
def seenU(l:List Nat):DataW Nat:=Maps.setOf (.lit (.bool true)) (l.map fun k:Nat=>Lit.int .u8 (k:Int))
open Classical in theorem atKeyU(u z:DataW Nat)(k:Lit):∀(acc:List Lit)(m:DataW Nat),Maps.IsMap m→(∀x∈acc,Go.WideAt.IsKeyLit x)→(acc.foldl (fun m x=>m.put x u) m).atKey k z=if k∈acc then u else m.atKey k z|[],m,_,_=>by simp|x::acc,m,hm,hk=>by rw[List.foldl_cons,atKeyU u z k acc _ (hm.put x u) fun y hy=>hk y (List.mem_cons_of_mem _ hy)];by_cases h1:k∈acc;(·rw[if_pos h1,if_pos (List.mem_cons_of_mem _ h1)]);·rw[if_neg h1];by_cases h2:k=x;(·subst h2;rw[Maps.atKey_put_same hm (hk k (List.mem_cons_self ..)),if_pos (List.mem_cons_self ..)]);·rw[Maps.atKey_put_other h2,if_neg (by rw[List.mem_cons];rintro(h|h);exact h2 h;exact h1 h)]
theorem seenU_put(l:List Nat)(k:Nat):(seenU l).put (.int .u8 (k:Int)) (.lit (.bool true))=seenU (l++[k]):=by unfold seenU;rw[List.map_append,List.map_singleton,Maps.setOf_snoc]
theorem seenU_at(l:List Nat)(k:Nat):(seenU l).atKey (.int .u8 (k:Int)) (.lit (.bool false))=.lit (.bool (l.contains k)):=by unfold seenU Maps.setOf;rw[atKeyU _ _ _ _ _ Maps.isMap_empty (fun y hy=>by obtain⟨z,_,rfl⟩:=List.mem_map.1 hy;exact trivial)];(have hm:(Lit.int .u8 (k:Int)∈l.map fun k:Nat=>Lit.int .u8 (k:Int))↔k∈l:=by rw[List.mem_map];constructor;(·rintro⟨y,hy,e⟩;injection e with _ e;(have e:y=k:=by omega);rwa[←e]);·intro h;exact⟨k,h,rfl⟩);by_cases h:k∈l;(·rw[if_pos (hm.2 h),List.contains_iff_mem.2 h]);·rw[if_neg (fun hh=>h (hm.1 hh))];(have:l.contains k=false:=by rw[←Bool.not_eq_true,List.contains_iff_mem];exact h);rw[this];rfl
theorem mapLawU:Maps.Keyed Tryz.prog 63:=Maps.int_keyed Tryz.underlying63
theorem key_u{k:Nat}(h:k<256):keyOf Tryz.prog 63 (.int .u8 (k:Int))=some (.int .u8 (k:Int)):=Maps.keyOf_int_mk Tryz.underlying63 (WalkArith.wf_u8 (by omega))
theorem plainBool_inv{P:Program}{e:TypeId}(he:P.underlying e=some .bool){v:Value}{b:Bool}{ps:List MemPlace}(h:plainElem (H:=Nat) P e v=some (.lit (.bool b),ps)):v=.bool b:=by unfold plainElem at h;rw[he]at h;cases v<;>simp at h;rw[h.1]
abbrev MapU(w:World)(M n:Nat)(l:List Nat):Prop:=w.ownsMap Tryz.prog 63 (plainElem (H:=Nat) Tryz.prog 4) M n (seenU l)
theorem seenU_run{w:World}{M n k:Nat}{l:List Nat}(h:MapU w M n l)(hk:k<256):(Instr.lookup 203 (.map (some M)) (.int .u8 (k:Int)) false).run Tryz.prog w=.ok (.bool (l.contains k)) w:=by obtain⟨v,ps,hrun,hv⟩:=h.lookup mapLawU Tryz.underlying203 (by kernel_rfl:(zeroValue 4).run Tryz.prog w=.ok (.bool false) w) (plainElem_bool Tryz.underlying4 false) (key_u hk);rw[seenU_at]at hv;rw[hrun,plainBool_inv Tryz.underlying4 hv]
end Go.Proofs.YtikepaanbnfpcaaGreatDoor
