/- Parts of the proof: CkAs, CkAt. -/
import Derived.WalkKit
import Derived.LaidEql
import Derived.Stop.Asserts
import Derived.RowKitTokens
import Derived.Laws.EntriesVeiled
import Derived.Test.YtikepaanbnfpcaaGreatDoorK20
import Derived.Test.YtikepaanbnfpcaaGreatDoorMac
set_option linter.unusedVariables false
set_option linter.unusedSimpArgs false
set_option maxRecDepth 100000
set_option maxHeartbeats 16000000
namespace Go.Proofs.YtikepaanbnfpcaaGreatDoor
open Go.RowKit Go.Extern.Stop Go.Stop Go.Extern
set_option maxRecDepth 100000
theorem as_nil(t:Value)(w:World):Calls Tryz.prog 32 #[.nilIface,t] w fun e w'=>e=.returned (.bool false)∧w'=w:=by go_enter Tryz.func32,Tryz.ntmps32;go_wp2_with fail;go_ret;exact⟨rfl,rfl⟩
theorem as_valueP(t:Addr)(w:World):(ReflectliteValue.unpack (.iface 93 (.pointer (some t)))).run Tryz.prog w=.ok (.agg #[.pointer (some ⟨10,93,none⟩),.pointer (some ⟨w.heap.size,0,none⟩),.int .u64 150]) (w.alloc (.cells #[.pointer (some t)] 93)):=by kernel_rfl
theorem as_typeP(a:Addr)(w:World):(ReflectliteValue.methodAny (ReflectliteValue.valueError "reflectlite.Value.Type" 0) (fun t _ _ _=>ReflectliteType.toType t) #[.agg #[.pointer (some ⟨10,93,none⟩),.pointer (some a),.int .u64 150]]).run Tryz.prog w=.ok (.iface 186 (.agg #[.pointer (some ⟨10,93,none⟩)])) w:=by kernel_rfl
theorem as_kindP(w:World):((ReflectliteType.abiMethod fun t=>(fun a:Nat=>Value.int IntKind.u8 (a:Int))<$>Rtype.kind t) #[.pointer (some ⟨10,93,none⟩)]).run Tryz.prog w=.ok (.int .u8 22) w:=by kernel_rfl
theorem as_kindF(w:World):((ReflectliteType.abiMethod fun t=>(fun a:Nat=>Value.int IntKind.u8 (a:Int))<$>Rtype.kind t) #[.pointer (some ⟨10,88,none⟩)]).run Tryz.prog w=.ok (.int .u8 25) w:=by kernel_rfl
theorem as_rlm (z : Sem Value) (f : TypeId → Addr → Nat → Nat → Sem Value) (v : Value) :
    ReflectliteValue.method z f #[v] = (do match ← ReflectliteValue.parts v with | none => z | some (t, a, fl) => f t a fl (fl % 32)) := rfl
theorem as_partsP(a:Addr)(w:World):(ReflectliteValue.parts (.agg #[.pointer (some ⟨10,93,none⟩),.pointer (some a),.int .u64 150])).run Tryz.prog w=.ok (some (93,a,150)) w:=by kernel_rfl
theorem as_isNilP(a p:Addr)(W:World)(ha:W.cell? a=some (.pointer (some p))):(ReflectliteValue.method (ReflectliteValue.valueError "reflectlite.Value.IsNil" 0) ReflectliteValue.isNil #[.agg #[.pointer (some ⟨10,93,none⟩),.pointer (some a),.int .u64 150]]).run Tryz.prog W=.ok (.bool false) W:=by rw[as_rlm];simp only[Sem.run_bind,as_partsP,Result.andThen];simp[ReflectliteValue.isNil,loadVar,isAgg,underlying,Tryz.underlying93,ha,Result.andThen]
theorem as_elemP(w:World):(ReflectliteType.method ReflectliteType.elem #[.agg #[.pointer (some ⟨10,93,none⟩)]]).run Tryz.prog w=.ok (.iface 186 (.agg #[.pointer (some ⟨10,88,none⟩)])) w:=by kernel_rfl
theorem as_implF(w:World):(ReflectliteType.relation "Implements" ReflectliteType.implements_ #[.agg #[.pointer (some ⟨10,88,none⟩)],.iface 186 (.agg #[.pointer (some ⟨10,91,none⟩)])]).run Tryz.prog w=.ok (.bool true) w:=by kernel_rfl
theorem as_typeOfF(v:Value)(w:World):(ReflectliteType.typeOf #[.iface 88 v]).run Tryz.prog w=.ok (.iface 186 (.agg #[.pointer (some ⟨10,88,none⟩)])) w:=by kernel_rfl
theorem as_assignF(w:World):(ReflectliteType.relation "AssignableTo" ReflectliteType.assignableTo #[.agg #[.pointer (some ⟨10,88,none⟩)],.iface 186 (.agg #[.pointer (some ⟨10,88,none⟩)])]).run Tryz.prog w=.ok (.bool true) w:=by kernel_rfl
theorem as_valueF(u v:Value)(w:World):(ReflectliteValue.unpack (.iface 88 (.agg #[u,v]))).run Tryz.prog w=.ok (.agg #[.pointer (some ⟨10,88,none⟩),.pointer (some ⟨w.heap.size,0,none⟩),.int .u64 153]) (w.alloc (.cells #[u,v] 88)):=by kernel_rfl
theorem as_elemOfP(w:World):(Rtype.elem? 93).run Tryz.prog w=.ok (some 88) w:=by kernel_rfl
theorem as_mkF(p:Addr)(w:World):(ReflectliteValue.mk 88 p ReflectliteValue.flagAddr).run Tryz.prog w=.ok (.agg #[.pointer (some ⟨10,88,none⟩),.pointer (some p),.int .u64 409]) w:=by kernel_rfl
theorem as_elemVP(a p:Addr)(W:World)(ha:W.cell? a=some (.pointer (some p))):(ReflectliteValue.method (ReflectliteValue.valueError "reflectlite.Value.Elem" 0) ReflectliteValue.elem #[.agg #[.pointer (some ⟨10,93,none⟩),.pointer (some a),.int .u64 150]]).run Tryz.prog W=.ok (.agg #[.pointer (some ⟨10,88,none⟩),.pointer (some p),.int .u64 409]) W:=by rw[as_rlm];simp only[Sem.run_bind,as_partsP,Result.andThen];simp[ReflectliteValue.elem,loadVar,isAgg,underlying,Tryz.underlying93,ha,Result.andThen,as_elemOfP,as_mkF]
theorem as_rls (v x : Value) : ReflectliteValue.set #[v, x] = (do
    let (some (dst, a, fl), some (src, b, _)) := (← ReflectliteValue.parts v, ← ReflectliteValue.parts x)
      | unsupported (.noEntry "extern/(internal/reflectlite.Value).Set.zeroValue")
    if fl / ReflectliteValue.flagAddr % 2 == 0 then unsupported (.noEntry "extern/(internal/reflectlite.Value).Set.unaddressable")
    let val ← loadVar src b
    if ← Rtype.directlyAssignable dst src then storeVar dst a val
    else if ← Rtype.implements dst src then
      if (← Rtype.kind src) == 20 then
        match val with
        | .nilIface => unsupported (.noEntry "extern/reflectlite: a nil value of one interface type handed on as a value of another")
        | _ => storeVar dst a val
      else storeVar dst a (.iface src val)
    else panicString ("reflectlite.Set: value of type " ++ (← Rtype.spelt src) ++ " is not assignable to type " ++ (← Rtype.spelt dst))
    pure (.tuple #[])) := rfl
theorem as_partsFa(a:Addr)(w:World):(ReflectliteValue.parts (.agg #[.pointer (some ⟨10,88,none⟩),.pointer (some a),.int .u64 409])).run Tryz.prog w=.ok (some (88,a,409)) w:=by kernel_rfl
theorem as_partsF(a:Addr)(w:World):(ReflectliteValue.parts (.agg #[.pointer (some ⟨10,88,none⟩),.pointer (some a),.int .u64 153])).run Tryz.prog w=.ok (some (88,a,153)) w:=by kernel_rfl
theorem as_directF(w:World):(Rtype.directlyAssignable 88 88).run Tryz.prog w=.ok true w:=by kernel_rfl
theorem as_sizeF(w:World):(sizeOf 88).run Tryz.prog w=.ok 2 w:=by kernel_rfl
theorem as_isAggF(w:World):(isAgg 88).run Tryz.prog w=.ok true w:=by kernel_rfl
theorem as_setF(ta b:Nat)(u v o1 o2:Value)(W:World)(hb0:W.cell? ⟨b,0,none⟩=some u)(hb1:W.cell? ⟨b,1,none⟩=some v)(hu:u.oneCell'=true)(hv:v.oneCell'=true)(hx:Box W ta #[o1,o2] 88):(ReflectliteValue.set #[.agg #[.pointer (some ⟨10,88,none⟩),.pointer (some ⟨ta,0,none⟩),.int .u64 409],.agg #[.pointer (some ⟨10,88,none⟩),.pointer (some ⟨b,0,none⟩),.int .u64 153]]).run Tryz.prog W=.ok (.tuple #[]) ((W.setCell ⟨ta,0,none⟩ u).setCell ⟨ta,1,none⟩ v):=by have h0:=hx.cell 0;have f0:=hx.frozen 0;have hx1:=hx.set 0 u;have h1:=hx1.cell 1;have f1:=hx1.frozen 1;rw[as_rls];simp only[Sem.run_bind,as_partsFa,as_partsF,Result.andThen];(have hl:(loadVar 88 ⟨b,0,none⟩).run Tryz.prog W=.ok (.agg #[u,v]) W:=by unfold loadVar;simp only[Sem.run_bind,as_isAggF,as_sizeF,Result.andThen];simp[loadCells,loadCellsFrom,Addr.add,run_load,hb0,hb1,Result.andThen]);(have hs:(storeVar 88 ⟨ta,0,none⟩ (.agg #[u,v])).run Tryz.prog W=.ok () ((W.setCell ⟨ta,0,none⟩ u).setCell ⟨ta,1,none⟩ v):=by unfold storeVar;simp only[Sem.run_bind,as_sizeF,Result.andThen];simp[Value.cells,storeCells,Addr.add,Sem.run_bind,run_store _ _ _ _ _ hu,run_store _ _ _ _ _ hv,h0,f0,h1,f1,Result.andThen]);simp[ReflectliteValue.flagAddr,hl,hs,Result.andThen,as_directF]
set_option maxRecDepth 100000
theorem as2_hit(w:World)(bt bv:Nat)(u v o1 o2:Value)(hu:u.oneCell'=true)(hv:v.oneCell'=true)(hx:Box w bt #[o1,o2] 88)(hc:w.cell? ⟨bv,0,none⟩=some (.pointer (some ⟨bt,0,none⟩))):Calls Tryz.prog 60 #[.iface 88 (.agg #[u,v]),.iface 93 (.pointer (some ⟨bt,0,none⟩)),.agg #[.pointer (some ⟨10,93,none⟩),.pointer (some ⟨bv,0,none⟩),.int .u64 150],.iface 186 (.agg #[.pointer (some ⟨10,88,none⟩)])] w fun e w'=>e=.returned (.bool true)∧Fx (fun b=>b=bt) w w'∧Box w' bt #[u,v] 88:=by have h57:=@run_callFunc_extern Tryz.prog 57 _ (fun args=>ReflectliteValue.unpack (args.getD 0 (.tuple #[]))) Tryz.func57 (by kernel_rfl) (by kernel_rfl) (by kernel_rfl) (by kernel_rfl);have h96:=@run_callFunc_extern Tryz.prog 96 _ ReflectliteType.typeOf Tryz.func96 (by kernel_rfl) (by kernel_rfl) (by kernel_rfl) (by kernel_rfl);have h97:=@run_callFunc_extern Tryz.prog 97 _ (ReflectliteValue.method (ReflectliteValue.valueError "reflectlite.Value.Elem" 0) ReflectliteValue.elem) Tryz.func97 (by kernel_rfl) (by kernel_rfl) (by kernel_rfl) (by kernel_rfl);have h98:=@run_callFunc_extern Tryz.prog 98 _ ReflectliteValue.set Tryz.func98 (by kernel_rfl) (by kernel_rfl) (by kernel_rfl) (by kernel_rfl);have h259:=@run_callFunc_extern Tryz.prog 259 _ (ReflectliteType.relation "AssignableTo" ReflectliteType.assignableTo) Tryz.func259 (by kernel_rfl) (by kernel_rfl) (by kernel_rfl) (by kernel_rfl);have tO:=as_typeOfF;have aF:=as_assignF;have vF:=as_valueF;(have mA:∀(h:Value)(w:World),(Go.method 443 186 (.agg #[h]) "AssignableTo").run Tryz.prog w=.ok (259,.agg #[h]) w:=fun h w=>by kernel_rfl);obtain⟨W0,hW⟩:∃W0,W0=w.alloc (.cells #[.pointer (some ⟨10,93,none⟩),.pointer (some ⟨bv,0,none⟩),.int .u64 150] 134):=⟨_,rfl⟩;have hb0:Below w.heap.size w W0:=hW▸held_alloc (Below.refl _ w);have bx0:Box W0 w.heap.size #[.pointer (some ⟨10,93,none⟩),.pointer (some ⟨bv,0,none⟩),.int .u64 150] 134:=hW▸Box.new w _ _;have x0:=bx0.cell 0;have x1:=bx0.cell 1;have x2:=bx0.cell 2;have xl:=bx0.lt;have el:=as_elemVP ⟨bv,0,none⟩ ⟨bt,0,none⟩ W0 (keep_cell hb0 hc);have hx0:=hx.after hb0;have hb1:Below W0.heap.size W0 (W0.alloc (.cells #[u,v] 88)):=held_alloc Zr;have bx1:Box (W0.alloc (.cells #[u,v] 88)) W0.heap.size #[u,v] 88:=Box.new W0 _ _;have hx1:=hx0.after hb1;have st:=as_setF bt W0.heap.size u v o1 o2 _ (bx1.cell 0) (bx1.cell 1) hu hv hx1;(have HX:Hid (Box (((W0.alloc (.cells #[u,v] 88)).setCell ⟨bt,0,none⟩ u).setCell ⟨bt,1,none⟩ v) bt #[u,v] 88):=by have h:=(hx1.set 0 u).set 1 v;show Box _ _ _ _;simpa using h);have HF:Hid (Fx (fun b=>b=bt) w (((W0.alloc (.cells #[u,v] 88)).setCell ⟨bt,0,none⟩ u).setCell ⟨bt,1,none⟩ v)):=(((Fx.of_below hb0).trans (Fx.of_below hb1)).trans (Fx.set _ bt 0 u)).trans (Fx.set _ bt 1 v);clear hx hx0 hx1 hb1 bx1 hb0 bx0 hc;go_enter Tryz.func60,Tryz.ntmps60;go_wp2_with fail;rw[←hW];refine wp_loop_rounds 1 ?_;rw[rounds_succ];clear hW;go_wp2_with fail;go_ret;exact⟨rfl,HF.out,HX.out⟩
set_option maxHeartbeats 4000000 in
theorem as_hit (w : World) (bt : Nat) (u v o1 o2 : Value) (hu : u.oneCell' = true) (hv : v.oneCell' = true) (hx : Box w bt #[o1, o2] 88) (hg : w.cell? ⟨0, 0, none⟩ = some (.iface 186 (.agg #[.pointer (some ⟨10, 91, none⟩)]))) :
    Calls Tryz.prog 32 #[.iface 88 (.agg #[u, v]), .iface 93 (.pointer (some ⟨bt, 0, none⟩))] w
      fun e w' => e = .returned (.bool true) ∧ Fx (fun b => b = bt) w w' ∧ Box w' bt #[u, v] 88 := by
  have h57 := @run_callFunc_extern Tryz.prog 57 _ (fun args => ReflectliteValue.unpack (args.getD 0 (.tuple #[]))) Tryz.func57 (by kernel_rfl) (by kernel_rfl) (by kernel_rfl) (by kernel_rfl)
  have h58 := @run_callFunc_extern Tryz.prog 58 _ (ReflectliteValue.methodAny (ReflectliteValue.valueError "reflectlite.Value.Type" 0) (fun t _ _ _ => ReflectliteType.toType t)) Tryz.func58 (by kernel_rfl) (by kernel_rfl) (by kernel_rfl) (by kernel_rfl)
  have h59 := @run_callFunc_extern Tryz.prog 59 _ (ReflectliteValue.method (ReflectliteValue.valueError "reflectlite.Value.IsNil" 0) ReflectliteValue.isNil) Tryz.func59 (by kernel_rfl) (by kernel_rfl) (by kernel_rfl) (by kernel_rfl)
  have h251 := @run_callFunc_extern Tryz.prog 251 _ (ReflectliteType.abiMethod fun t => do pure (.int .u8 (← Rtype.kind t))) Tryz.func251 (by kernel_rfl) (by kernel_rfl) (by kernel_rfl) (by kernel_rfl)
  have h261 := @run_callFunc_extern Tryz.prog 261 _ (ReflectliteType.method ReflectliteType.elem) Tryz.func261 (by kernel_rfl) (by kernel_rfl) (by kernel_rfl) (by kernel_rfl)
  have h262 := @run_callFunc_extern Tryz.prog 262 _ (ReflectliteType.relation "Implements" ReflectliteType.implements_) Tryz.func262 (by kernel_rfl) (by kernel_rfl) (by kernel_rfl) (by kernel_rfl)
  have mK : ∀ (h : Value) (w : World), (Go.method 443 186 (.agg #[h]) "Kind").run Tryz.prog w = .ok (251, h) w := fun h w => by kernel_rfl
  have mE : ∀ (h : Value) (w : World), (Go.method 443 186 (.agg #[h]) "Elem").run Tryz.prog w = .ok (261, .agg #[h]) w := fun h w => by kernel_rfl
  have mI : ∀ (h : Value) (w : World), (Go.method 443 186 (.agg #[h]) "Implements").run Tryz.prog w = .ok (262, .agg #[h]) w := fun h w => by kernel_rfl
  have vP := as_valueP
  have tP := as_typeP
  have kP := as_kindP
  have kF := as_kindF
  have eP := as_elemP
  have iF := as_implF
  have hlt : 0 < w.heap.size := by have := World.block_lt_of_cell? _ _ hg; exact this
  have hnt : bt ≠ 0 ∨ bt = 0 := by omega
  obtain ⟨W1, hW1⟩ : ∃ W1, W1 = w.alloc (.cells #[.pointer (some ⟨bt, 0, none⟩)] 93) := ⟨_, rfl⟩
  obtain ⟨W2, hW2⟩ : ∃ W2, W2 = W1.alloc (.cells #[.pointer (some ⟨10, 93, none⟩), .pointer (some ⟨w.heap.size, 0, none⟩), .int .u64 150] 134) := ⟨_, rfl⟩
  have hs1 : W1.heap.size = w.heap.size + 1 := by rw [hW1, World.size_alloc]
  have hb1 : Below w.heap.size w W1 := hW1 ▸ held_alloc (Below.refl _ w)
  have hb2 : Below W1.heap.size W1 W2 := hW2 ▸ held_alloc (Below.refl _ W1)
  have bx1 : Box W1 w.heap.size #[.pointer (some ⟨bt, 0, none⟩)] 93 := hW1 ▸ Box.new w _ _
  have bx2 : Box W2 W1.heap.size #[.pointer (some ⟨10, 93, none⟩), .pointer (some ⟨w.heap.size, 0, none⟩), .int .u64 150] 134 := hW2 ▸ Box.new W1 _ _
  rw [hs1] at bx2
  have hx2 := (hx.after hb1).after hb2
  have c1 := (bx1.after hb2).cell 0
  have g2 := keep_cell hb2 (keep_cell hb1 hg)
  have y0 := bx2.cell 0
  have y1 := bx2.cell 1
  have y2 := bx2.cell 2
  have yl := bx2.lt
  have n59 := as_isNilP ⟨w.heap.size, 0, none⟩ ⟨bt, 0, none⟩ W2 c1
  have HA := Lib.hid (as2_hit W2 bt w.heap.size u v o1 o2 hu hv hx2 c1)
  have HF : Hid (Fx (fun b => b = bt) w W2) := (Fx.of_below hb1).trans (Fx.of_below hb2)
  clear hx hx2 hb1 hb2 bx1 bx2 hg c1
  rw [hW1] at hW2
  clear hW1
  go_enter Tryz.func32, Tryz.ntmps32
  go_upto_region 6 with fail
  rw [← hW2]
  clear hW2
  go_wp2_with fail
  refine HA.out.mono ?_
  rintro e w3 ⟨rfl, hf3, hx3⟩
  have HF3 := Lib.hid (HF.out.trans hf3)
  have HX3 := Lib.hid hx3
  clear hf3 hx3
  go_wp2_with fail
  go_ret
  exact ⟨rfl, HF3.out, HX3.out⟩
end Go.Proofs.YtikepaanbnfpcaaGreatDoor
