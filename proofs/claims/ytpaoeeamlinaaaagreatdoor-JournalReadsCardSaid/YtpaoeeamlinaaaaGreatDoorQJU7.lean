/- Journal, walks of the reference: plan. -/
import Derived.Test.YtpaoeeamlinaaaaGreatDoorK10
import Derived.Test.YtpaoeeamlinaaaaGreatDoorQJU6
set_option linter.unusedVariables false
namespace Go.Proofs.YtpaoeeamlinaaaaGreatDoor
open Go.RowKit

/-- What stays while only new blocks turn. -/
def Stay (O : World → Value → Prop) : Prop := ∀ w w' v, O w v → Below w.heap.size w w' → O w' v
theorem OwnS.after {w w' : World} {base : Nat} {v : Value} {l : List Stp} (h : OwnS w base v l) (hb : Below w.heap.size w w') : OwnS w' base v l := ⟨h.1, h.2.after hb⟩
theorem OwnL.after {w w' : World} {base : Nat} {v : Value} {l : List (List Int)} (h : OwnL w base v l) (hb : Below w.heap.size w w') : OwnL w' base v l :=
  h.fx (S := fun _ => False) (Fx.of_below hb) (fun _ e => e.elim) (fun _ e => e.elim)
/-- A row of the call's own grows and is put into block P1: what holds while the region draws. -/
structure CQ (WB : World) (P1 iA iS : Nat) (cs : Value → Array Value) (v : Value) (O O' : World → Value → Prop) (listed : Array Bool) (f : Nat → Value) (w : World) : Prop where
  fx : Fx (fun b => b = P1) WB w
  own : ¬ up listed iA → O w v
  box : ¬ up listed iS → Box w P1 (cs v) 27
  new : up listed iS → ∃ v', O' w v' ∧ Box w P1 (cs v') 27
section
variable {WB : World} {P1 iA iS : Nat} {cs : Value → Array Value} {v : Value} {O O' : World → Value → Prop} {listed : Array Bool} {f g : Nat → Value} {w w' : World}
theorem CQ.start {n : Nat} (hO : Stay O) (hf : Fx (fun b => b = P1) WB w) (ho : O w v) (hb : Box w P1 (cs v) 27) : CQ WB P1 iA iS cs v O O' (Array.replicate n false) f w.drew :=
  ⟨hf.drew, fun _ => hO _ _ _ ho (below_dr (Below.refl _ _)), fun _ => hb.after (below_dr (Below.refl _ _)), fun h => absurd h (up_none _ _)⟩
theorem CQ.keep {i : Nat} (h : CQ WB P1 iA iS cs v O O' listed f w) (hO : Stay O) (hO' : Stay O') (hA : iA ≠ i) (hS : iS ≠ i) (hb : Below w.heap.size w w') : CQ WB P1 iA iS cs v O O' (listed.setIfInBounds i true) g w' := by
  refine ⟨h.fx.below hb, fun a => ?_, fun a => ?_, fun a => ?_⟩ <;> simp only [up_other hA, up_other hS] at a
  · exact hO _ _ _ (h.own a) hb
  · exact (h.box a).after hb
  · obtain ⟨v', k1, k2⟩ := h.new a
    exact ⟨v', hO' _ _ _ k1 hb, k2.after hb⟩
theorem CQ.app (h : CQ WB P1 iA iS cs v O O' listed f w) (hne : iA ≠ iS) (hl : iA < listed.size) (hP : P1 < WB.heap.size) (nS : ¬ up listed iS) (hown : ∀ b, some b = v.ownBlock → WB.heap.size ≤ b) (hf : Fx (fun b => some b = v.ownBlock) w w') : CQ WB P1 iA iS cs v O O' (listed.setIfInBounds iA true) g w' := by
  refine ⟨h.fx.new hf (fun b e => .inr (hown b e)), fun a => absurd (up_self hl) a, fun _ => (h.box nS).fx hf (fun e => ?_), fun a => absurd (up_set a hne.symm) nS⟩
  have := hown _ e
  omega
theorem CQ.put {j : Nat} {v' : Value} (h : CQ WB P1 iA iS cs v O O' listed f w) (hl : iS < listed.size) (uA : up listed iA) (hne : iA ≠ iS) (nS : ¬ up listed iS) (hcs : (cs v).setIfInBounds j v' = cs v') (hO : O' (w.setCell ⟨P1, j, none⟩ v') v') : CQ WB P1 iA iS cs v O O' (listed.setIfInBounds iS true) g (w.setCell ⟨P1, j, none⟩ v') := by
  have hb := h.box nS
  refine ⟨h.fx.trans (Fx.set w P1 j v'), fun a => absurd (up_keep uA) a, fun a => absurd (up_self hl) a, fun _ => ⟨v', hO, ?_⟩⟩
  rw [← hcs]
  exact hb.set j v'
end
/-- What an operation yields. -/
inductive KQ where
  | any
  | eq (u : Value)
  | lit (row : List Value) (t : TypeId)
  | own
  | inn (a : List Int)
  | two (a : List Int)
def KQ.holds (base iA : Nat) (O' : World → Value → Prop) (listed : Array Bool) (i : Nat) (k : KQ) (v : Value) (w : World) : Prop := match k with
  | .any => True
  | .eq u => v = u
  | .lit row t => ¬ up listed iA → ∃ b, v = .slice (some ⟨b, 0, none⟩) 1 1 ∧ Box w b row.toArray t
  | .own => i = iA → O' w v
  | .inn a => ¬ up listed iA → OwnI w base v a
  | .two a => ¬ up listed iA → ∃ b u, v = .slice (some ⟨b, 0, none⟩) 1 1 ∧ Box w b [u].toArray 54 ∧ OwnI w base u a
def SQ (base iA : Nat) (O' : World → Value → Prop) (K : Nat → KQ) (listed : Array Bool) (k : Nat) (v : Value) (w : World) : Prop := (K k).holds base iA O' listed k v w
section
variable {base iA : Nat} {O' : World → Value → Prop} {K : Nat → KQ} {listed : Array Bool} {i k : Nat} {v : Value} {w w' : World}
theorem SQ.of (κ : KQ) (hk : K k = κ) (h : κ.holds base iA O' listed k v w) : SQ base iA O' K listed k v w := by unfold SQ; rw [hk]; exact h
theorem SQ.keep (hO' : Stay O') (h : SQ base iA O' K listed k v w) (hb : Below w.heap.size w w') : SQ base iA O' K (listed.setIfInBounds i true) k v w' := by
  unfold SQ at h ⊢
  generalize K k = κ at h ⊢
  cases κ with
  | any => trivial
  | eq u => exact h
  | lit row t =>
    intro hu
    obtain ⟨b, e, h1⟩ := h (fun u => hu (up_keep u))
    exact ⟨b, e, h1.after hb⟩
  | own => exact fun e => hO' _ _ _ (h e) hb
  | inn a => exact fun hu => (h (fun u => hu (up_keep u))).after hb
  | two a =>
    intro hu
    obtain ⟨b, u, e, h1, h2⟩ := h (fun u => hu (up_keep u))
    exact ⟨b, u, e, h1.after hb, h2.after hb⟩
theorem SQ.app (h : SQ base iA O' K listed k v w) (hne : k ≠ iA) (hl : iA < listed.size) : SQ base iA O' K (listed.setIfInBounds iA true) k v w' := by
  unfold SQ at h ⊢
  generalize K k = κ at h ⊢
  cases κ with
  | any => trivial
  | eq u => exact h
  | lit row t => exact fun hu => absurd (up_self hl) hu
  | own => exact fun e => absurd e hne
  | inn a => exact fun hu => absurd (up_self hl) hu
  | two a => exact fun hu => absurd (up_self hl) hu
theorem SQ.put (h : SQ base iA O' K listed k v w) (uA : up listed iA) (hO : ∀ v, O' w v → O' w' v) : SQ base iA O' K (listed.setIfInBounds i true) k v w' := by
  unfold SQ at h ⊢
  generalize K k = κ at h ⊢
  cases κ with
  | any => trivial
  | eq u => exact h
  | lit row t => exact fun hu => absurd (up_keep uA) hu
  | own => exact fun e => hO _ (h e)
  | inn a => exact fun hu => absurd (up_keep uA) hu
  | two a => exact fun hu => absurd (up_keep uA) hu
end
theorem step_appI {w : World} {ops : Array Oper} {o : Oper} {tm : Array Value} {df : List Deferred} {K : Act → World → Prop} {Q : Exit → Act → World → Prop} {E : Prop} (hg : o.guard = none) (s x : Operand)
    (ho : o.op = .call { callee := .builtin .append, args := #[s, x], argTypes := #[54, 54] })
    (base : Nat) (v u : Value) (l m : List Int) (hs : (⟨tm, df⟩ : Act).eval s = v) (hown : OwnI w base v l) (hx : (⟨tm, df⟩ : Act).eval x = u) (hm : SlI w u m) (hl : l.length + m.length ≤ 1000000) (hbase : base ≤ w.heap.size)
    (hK : ∀ v' w', OwnI w' base v' (l ++ m) → Below base w w' → K ((⟨tm, df⟩ : Act).put o.dst v') w') :
    if Region.wanted o (yielded ops tm) = true then o.wp Tryz.prog ⟨tm, df⟩ w K Q else E := by
  have hw : Region.wanted o (yielded ops tm) = true := by simp [Region.wanted, hg]
  rw [if_pos hw]
  obtain ⟨v', w', hr, h2, h3⟩ := run_appI w base o.type v u l m hown hm hl hbase
  unfold Oper.wp execOp
  simp only [ho, resolve, invoke, builtin, Sem.run_bind, Sem.run_pure, Result.andThen_ok, List.map_toArray, List.map_cons, List.map_nil, hs, hx, hr]
  exact hK v' w' h2 h3
/-- What lies behind the first d of a slice of ints. -/
theorem SlIT.rest {w : World} {b off cap n : Nat} {l : List Int} (h : SlIT w (.slice (some ⟨b, off, none⟩) n cap) l) (d : Nat) (hd : d ≤ l.length) : SlIT w (.slice (some ⟨b, off + d, none⟩) (l.length - d) (cap - d)) (l.drop d) := by
  obtain ⟨⟨h0, a, c, e, h1, h2, h3, h4⟩, h5⟩ := h
  injection e with e1 e2 e3
  subst e1 e2 e3
  have ht : TagB w b 3 := h5 _ _ _ rfl
  refine ⟨⟨fun z hz => h0 z (List.mem_of_mem_drop hz), some ⟨b, off + d, none⟩, cap - d, by rw [List.length_drop], by rw [List.length_drop]; omega, by omega, (fun h => by cases h), fun hn => ?_⟩, fun a n c e => ?_⟩
  · rw [List.length_drop] at hn
    obtain ⟨b', off', e, hlt, hc⟩ := h4 (by omega)
    injection e with e
    injection e with e1 e2 _
    subst e1 e2
    refine ⟨b, off + d, rfl, hlt, fun i hi j hj => ?_⟩
    rw [List.length_drop] at hi
    have := hc (d + i) (by omega) j hj
    have e : off + (d + i) * 1 + j = off + d + i * 1 + j := by omega
    rw [e] at this
    rw [this]
    dsimp only
    rw [List.getD_eq_getElem?_getD, List.getD_eq_getElem?_getD, List.getElem?_drop]
  · injection e with e _ _
    injection e with e
    subst e
    exact ht
theorem SlIT.rest0 {w : World} {b off cap n : Nat} {l : List Int} (h : SlIT w (.slice (some ⟨b, off, none⟩) n cap) l) : SlIT w (.slice (some ⟨b, off, none⟩) 0 0) [] := by
  obtain ⟨⟨h0, a, c, e, h1, h2, h3, h4⟩, h5⟩ := h
  injection e with e1 e2 e3
  subst e1
  refine ⟨⟨by simp, _, 0, rfl, by simp, by simp, (fun h => by cases h), fun hn => absurd hn (by simp)⟩, fun a n c e => ?_⟩
  injection e with e _ _
  injection e with e
  subst e
  exact h5 _ _ _ rfl
/-- The first d of a slice of ints. -/
theorem SlI.front {w : World} {b off cap n : Nat} {l : List Int} (h : SlI w (.slice (some ⟨b, off, none⟩) n cap) l) (d : Nat) (hd : d ≤ l.length) : SlI w (.slice (some ⟨b, off, none⟩) d cap) (l.take d) := by
  obtain ⟨h0, a, c, e, h1, h2, h3, h4⟩ := h
  injection e with e1 e2 e3
  subst e1 e2 e3
  have hl : (l.take d).length = d := by rw [List.length_take]; omega
  refine ⟨fun z hz => h0 z (List.mem_of_mem_take hz), some ⟨b, off, none⟩, cap, by rw [hl], by rw [hl]; omega, by omega, (fun h => by cases h), fun hn => ?_⟩
  rw [hl] at hn
  obtain ⟨b', off', e, hlt, hc⟩ := h4 (by omega)
  refine ⟨b', off', e, hlt, fun i hi j hj => ?_⟩
  rw [hl] at hi
  rw [hc i (by omega) j hj]
  dsimp only
  rw [List.getD_eq_getElem?_getD, List.getD_eq_getElem?_getD, List.getElem?_take, if_pos hi]
def RetPr (w : World) (l : List Int) (e : Ending) (w' : World) : Prop := ∃ vs va, e = .returned (.agg #[vs, va]) ∧ SlST w' vs (planX l).1 ∧ SlLT w' va (planX l).2 ∧ Below w.heap.size w w'

theorem list_head (ls : List Int) (h : ∀ z ∈ ls, 0 ≤ z ∧ z ≤ 10000000) : ls = [] ∨ ∃ n : Nat, 0 < ls.length ∧ ls.getD 0 0 = (n : Int) ∧ planX ls = if 12 < (n : Int) ∨ (ls.length : Int) < 1 + 4 * (n : Int) then ([], []) else (stepsR ls n, aftR n (ls.drop (1 + 4 * n))) := by
  cases ls with
  | nil => exact .inl rfl
  | cons x xs =>
    obtain ⟨n, rfl⟩ : ∃ n : Nat, x = (n : Int) := ⟨x.toNat, by have := h x (by simp); omega⟩
    exact .inr ⟨n, by simp, rfl, rfl⟩
theorem in64_small {z : Int} (h : 0 ≤ z ∧ z ≤ 10000000) : In64 z := by constructor <;> omega
theorem getD_in {l : List Int} {j : Nat} (h : ∀ z ∈ l, 0 ≤ z ∧ z ≤ 10000000) (hj : j < l.length) : 0 ≤ l.getD j 0 ∧ l.getD j 0 ≤ 10000000 := by
  rw [List.getD_eq_getElem?_getD, List.getElem?_eq_getElem hj]
  exact h _ (List.getElem_mem hj)
set_option maxRecDepth 100000 in
set_option maxHeartbeats 4000000 in
theorem rPlanU_c (w : World) (lv : Value) (ls : List Int) (h : SlIT w lv ls) (hpos : ∀ z ∈ ls, 0 ≤ z ∧ z ≤ 10000000) (hlen : ls.length ≤ 100000) :
    Calls Tryz.prog 66 #[lv] w (RetPr w ls) := by
  obtain ⟨W1, hW1⟩ : ∃ W1, W1 = w.alloc (.cells #[.slice none 0 0, .slice none 0 0] 27) := ⟨_, rfl⟩
  have hb1 : Below w.heap.size w W1 := by rw [hW1]; exact held_alloc (Below.refl _ _)
  have bx1 : Box W1 w.heap.size #[.slice none 0 0, .slice none 0 0] 27 := by rw [hW1]; exact Box.new _ _ _
  have hs1 : W1.heap.size = w.heap.size + 1 := by rw [hW1]; simp
  obtain ⟨WB, hWB⟩ : ∃ WB, WB = W1.alloc (.cells #[.slice none 0 0, .slice none 0 0] 27) := ⟨_, rfl⟩
  have hb2 : Below W1.heap.size W1 WB := by rw [hWB]; exact held_alloc (Below.refl _ _)
  have bx2 : Box WB (w.heap.size + 1) #[.slice none 0 0, .slice none 0 0] 27 := by rw [hWB, ← hs1]; exact Box.new _ _ _
  have hs2 : WB.heap.size = w.heap.size + 2 := by rw [hWB]; simp [hs1]
  have HB0 : Hid (Below w.heap.size w WB) := hb1.trans (hb2.mono (by omega))
  have BX := Lib.hid (bx1.after hb2)
  have BY := Lib.hid bx2
  have HS := Lib.hid (h.after HB0.out)
  have HSZ := Lib.hid hs2
  have HPO := Lib.hid hpos
  clear hb1 bx1 hb2 bx2 hpos h
  have y0 : WB.cell? ⟨w.heap.size + 1, 0, none⟩ = some (.slice none 0 0) := BY.out.cell 0
  have y1 : WB.cell? ⟨w.heap.size + 1, 1, none⟩ = some (.slice none 0 0) := BY.out.cell 1
  have x0 : WB.cell? ⟨w.heap.size, 0, none⟩ = some (.slice none 0 0) := BX.out.cell 0
  have x1 : WB.cell? ⟨w.heap.size, 1, none⟩ = some (.slice none 0 0) := BX.out.cell 1
  have u0 := BX.out.frozen 0
  have u1 := BX.out.frozen 1
  have xl := BX.out.lt
  have yl := BY.out.lt
  have hs1' := Lib.hid hs1
  clear hs2 hs1
  rcases list_head ls HPO.out with hnil | ⟨n, hpos, hg0, hpl⟩
  · subst hnil
    obtain ⟨p, c, rfl, _⟩ := HS.out.1.2.shape
    have HP : Hid (planX [] = ([], [])) := rfl
    go_enter Tryz.func66, Tryz.ntmps66
    go_upto_region 2 with fail
    rw [← hW1, ← hWB]
    clear hW1 hWB
    go_wp2_with fail
    refine (show (∀ WE, Box WE w.heap.size #[.slice none 0 0, .slice none 0 0] 27 → Below w.heap.size w WE → bodyPost Tryz.prog _ (RetPr w _) Exit.ret _ WE) → _ from fun H => H _ (by have := (BX.out.set 0 (.slice none 0 0)).set 1 (.slice none 0 0); simpa using this) ((HB0.out.setCell (Nat.le_refl _) _).setCell (Nat.le_refl _) _)) ?_
    intro WE HE hbE
    have z0 := HE.cell 0
    have z1 := HE.cell 1
    refine bodyPost_ret (v := .agg #[.slice none 0 0, .slice none 0 0]) (by simp [results, Tryz.results66, go_sem, z0, z1]) rfl ?_
    exact ⟨_, _, rfl, by rw [HP.out]; exact SlST.nil _, by rw [HP.out]; exact SlLT.nil _, hbE⟩
  obtain ⟨bl, off, cap, rfl, hcap, hmax, hbl, hc⟩ := HS.out.1.2.at_ hpos
  obtain ⟨ln, hln⟩ : ∃ ln, ls.length = ln := ⟨_, rfl⟩
  rw [hln] at hcap HS hc hlen hpos hpl ⊢
  have HLN := Lib.hid hln
  have HBT : Hid (TagB WB bl 3) := HS.out.2 ⟨bl, off, none⟩ _ _ rfl
  have HNE : Hid (¬ (bl = w.heap.size + 1)) := fun e => by have h := HBT.out; rw [e] at h; cases h.one BY.out.tag
  have c0 : WB.cell? ⟨bl, off, none⟩ = some (.int .i64 (n : Int)) := by have := hc 0 (by omega) 0 (by omega); rw [hg0] at this; simpa using this
  have HCC : Hid (∀ j, j < ln → WB.cell? ⟨bl, off + j, none⟩ = some (.int .i64 (ls.getD j 0))) := fun j hj => by have := hc j hj 0 (by omega); simpa using this
  have HBL := Lib.hid hbl
  have l0 : (0 : Int) < (ln : Int) := by omega
  have l1 : ((ln : Int) == 0) = false := by rw [beq_eq_false_iff_ne]; omega
  clear hc hln hg0
  by_cases h12 : 12 < n
  · have HP : Hid (planX ls = ([], [])) := by
      show _ = _
      rw [hpl, if_pos (.inl (by omega))]
    have q1 : (12 : Int) < (n : Int) := by omega
    clear h12 hpl
    go_enter Tryz.func66, Tryz.ntmps66
    go_upto_region 2 with fail
    rw [← hW1, ← hWB]
    clear hW1 hWB
    go_wp2_with fail
    refine (show (∀ WE, Box WE w.heap.size #[.slice none 0 0, .slice none 0 0] 27 → Below w.heap.size w WE → bodyPost Tryz.prog _ (RetPr w _) Exit.ret _ WE) → _ from fun H => H _ (by have := (BX.out.set 0 (.slice none 0 0)).set 1 (.slice none 0 0); simpa using this) ((HB0.out.setCell (Nat.le_refl _) _).setCell (Nat.le_refl _) _)) ?_
    intro WE HE hbE
    have z0 := HE.cell 0
    have z1 := HE.cell 1
    refine bodyPost_ret (v := .agg #[.slice none 0 0, .slice none 0 0]) (by simp [results, Tryz.results66, go_sem, z0, z1]) rfl ?_
    exact ⟨_, _, rfl, by rw [HP.out]; exact SlST.nil _, by rw [HP.out]; exact SlLT.nil _, hbE⟩
  have q1 : ¬ (12 : Int) < (n : Int) := by omega
  obtain ⟨d, hd⟩ : ∃ d, 1 + 4 * n = d := ⟨_, rfl⟩
  have hd1 : (1 : Int) + 4 * (n : Int) = (d : Int) := by omega
  by_cases h4 : ln < d
  · have HP : Hid (planX ls = ([], [])) := by
      show _ = _
      rw [hpl, if_pos (.inr (by omega))]
    have q2 : (ln : Int) < (d : Int) := by omega
    clear h4 hd hpl
    go_enter Tryz.func66, Tryz.ntmps66
    go_upto_region 2 with fail
    rw [← hW1, ← hWB]
    clear hW1 hWB
    go_wp2_with fail
    refine (show (∀ WE, Box WE w.heap.size #[.slice none 0 0, .slice none 0 0] 27 → Below w.heap.size w WE → bodyPost Tryz.prog _ (RetPr w _) Exit.ret _ WE) → _ from fun H => H _ (by have := (BX.out.set 0 (.slice none 0 0)).set 1 (.slice none 0 0); simpa using this) ((HB0.out.setCell (Nat.le_refl _) _).setCell (Nat.le_refl _) _)) ?_
    intro WE HE hbE
    have z0 := HE.cell 0
    have z1 := HE.cell 1
    refine bodyPost_ret (v := .agg #[.slice none 0 0, .slice none 0 0]) (by simp [results, Tryz.results66, go_sem, z0, z1]) rfl ?_
    exact ⟨_, _, rfl, by rw [HP.out]; exact SlST.nil _, by rw [HP.out]; exact SlLT.nil _, hbE⟩
  have q2 : ¬ (ln : Int) < (d : Int) := by omega
  have HP : Hid (planX ls = (stepsR ls n, aftR n (ls.drop d))) := by
    show _ = _
    rw [hpl, if_neg (by omega), hd]
  have HD := Lib.hid hd
  have hdl : d ≤ ln := by omega
  have hn12 : n ≤ 12 := by omega
  clear h12 h4 hd hpl hpos
  go_enter Tryz.func66, Tryz.ntmps66
  go_upto_region 2 with fail
  rw [← hW1, ← hWB]
  clear hW1 hWB
  go_wp2_with fail
  clear q1 q2 l0 l1
  go_loopg [5] n (fun g t wx => ∃ (i : Nat) (vs : Value), i ≤ n ∧ g = n - i ∧ t = .int .i64 (i : Int) ∧ Hid (OwnS wx WB.heap.size vs (stepsR ls i)) ∧ Hid (Box wx (w.heap.size + 1) #[vs, .slice none 0 0] 27) ∧ Hid (Fx (fun b => b = w.heap.size + 1) WB wx))
  case atStart => exact ⟨0, .slice none 0 0, Nat.zero_le _, rfl, rfl, ⟨by simp [stepsR], OwnC.nil _ _ _ _⟩, BY.out, Fx.refl _ _⟩
  case round =>
    obtain ⟨i, vs, hi, rfl, rfl, hO, hBX, hF⟩ := hrel
    clear y0 y1 x0 x1 u0 u1 xl yl c0
    by_cases hlt : i < n
    · have hiz : (i : Int) < (n : Int) := by omega
      have HDO := HD.out
      obtain ⟨m4, hm4⟩ : ∃ m4, 4 * i = m4 := ⟨_, rfl⟩
      obtain ⟨k1, hk1⟩ : ∃ k1, 1 + m4 = k1 := ⟨_, rfl⟩
      have HK1 : Hid ((1 : Int) + (m4 : Int) = (k1 : Int)) := by show _ = _; omega
      have HKL1 : Hid (k1 < ln) := by show _ < _; omega
      obtain ⟨z1, hz1⟩ : ∃ z, ls.getD k1 0 = z := ⟨_, rfl⟩
      have HC1 : Hid (WB.cell? ⟨bl, off + k1, none⟩ = some (.int .i64 z1)) := by have h := HCC.out k1 HKL1.out; rw [hz1] at h; exact h
      have HZ1 : Hid (0 ≤ z1 ∧ z1 ≤ 10000000) := by show _ ∧ _; rw [← hz1]; exact getD_in HPO.out (by have := HLN.out; have := HKL1.out; omega)
      obtain ⟨k2, hk2⟩ : ∃ k2, 2 + m4 = k2 := ⟨_, rfl⟩
      have HK2 : Hid ((2 : Int) + (m4 : Int) = (k2 : Int)) := by show _ = _; omega
      have HKL2 : Hid (k2 < ln) := by show _ < _; omega
      obtain ⟨z2, hz2⟩ : ∃ z, ls.getD k2 0 = z := ⟨_, rfl⟩
      have HC2 : Hid (WB.cell? ⟨bl, off + k2, none⟩ = some (.int .i64 z2)) := by have h := HCC.out k2 HKL2.out; rw [hz2] at h; exact h
      have HZ2 : Hid (0 ≤ z2 ∧ z2 ≤ 10000000) := by show _ ∧ _; rw [← hz2]; exact getD_in HPO.out (by have := HLN.out; have := HKL2.out; omega)
      obtain ⟨k3, hk3⟩ : ∃ k3, 3 + m4 = k3 := ⟨_, rfl⟩
      have HK3 : Hid ((3 : Int) + (m4 : Int) = (k3 : Int)) := by show _ = _; omega
      have HKL3 : Hid (k3 < ln) := by show _ < _; omega
      obtain ⟨z3, hz3⟩ : ∃ z, ls.getD k3 0 = z := ⟨_, rfl⟩
      have HC3 : Hid (WB.cell? ⟨bl, off + k3, none⟩ = some (.int .i64 z3)) := by have h := HCC.out k3 HKL3.out; rw [hz3] at h; exact h
      have HZ3 : Hid (0 ≤ z3 ∧ z3 ≤ 10000000) := by show _ ∧ _; rw [← hz3]; exact getD_in HPO.out (by have := HLN.out; have := HKL3.out; omega)
      obtain ⟨k4, hk4⟩ : ∃ k4, 4 + m4 = k4 := ⟨_, rfl⟩
      have HK4 : Hid ((4 : Int) + (m4 : Int) = (k4 : Int)) := by show _ = _; omega
      have HKL4 : Hid (k4 < ln) := by show _ < _; omega
      obtain ⟨z4, hz4⟩ : ∃ z, ls.getD k4 0 = z := ⟨_, rfl⟩
      have HC4 : Hid (WB.cell? ⟨bl, off + k4, none⟩ = some (.int .i64 z4)) := by have h := HCC.out k4 HKL4.out; rw [hz4] at h; exact h
      have HZ4 : Hid (0 ≤ z4 ∧ z4 ≤ 10000000) := by show _ ∧ _; rw [← hz4]; exact getD_in HPO.out (by have := HLN.out; have := HKL4.out; omega)
      obtain ⟨L, hL⟩ : ∃ L, stepsR ls i = L := ⟨_, rfl⟩
      have HLL : Hid (L.length ≤ 1000000) := by show _ ≤ _; rw [← hL, stepsR_len]; omega
      have HM4 : Hid ((4 : Int) * (i : Int) = (m4 : Int)) := by show _ = _; omega
      obtain ⟨kd, hkd⟩ : ∃ kd : Nat, (z1 % 256).toNat = kd := ⟨_, rfl⟩
      have HZP := HZ1.out
      have HT2 : Hid (z1 % 256 = (kd : Int)) := by show _ = _; omega
      have HT1 : Hid (Int.tmod z1 256 = (kd : Int)) := by show _ = _; rw [Int.tmod_eq_emod_of_nonneg HZP.1]; exact HT2.out
      have HK256 : Hid (kd < 256) := by show _ < _; omega
      have HK8 : Hid (IntKind.u8.wrap (kd : Int) = (kd : Int)) := by show _ = _; rw [wrap_8]; have := HK256.out; omega
      have HXK : Hid (StpOk ⟨kd, z2, z3, z4⟩) := ⟨HK256.out, in64_small HZ2.out, in64_small HZ3.out, in64_small HZ4.out⟩
      have HST : Hid (stepsR ls (i + 1) = L ++ [⟨kd, z2, z3, z4⟩]) := by
        show _ = _
        rw [stepsR_succ, hL]
        unfold stpAt
        rw [hm4, hk1, hk2, hk3, hk4, hz1, hz2, hz3, hz4, hkd]
      have HPL : Hid (w.heap.size + 1 < WB.heap.size) := by show _ < _; rw [HSZ.out]; omega
      rw [hL] at hO
      clear hL hm4 hk1 hk2 hk3 hk4 hz1 hz2 hz3 hz4 hkd HZP HDO
      go_upto_region 8 with fail
      refine wp_region_gj (J := GJ _ (SQ WB.heap.size 30 (fun w v => OwnS w WB.heap.size v (L ++ [⟨kd, z2, z3, z4⟩])) (fun κ => match κ with | 0 => .eq (.pointer (some ⟨w.heap.size + 1, 0, none⟩)) | 1 => .eq (vs) | 2 => .eq (.slice (some ⟨bl, off, none⟩) ln cap) | 3 => .eq (.int .i64 (i : Int)) | 4 => .eq (.int .i64 (m4 : Int)) | 5 => .eq (.int .i64 (k1 : Int)) | 6 => .eq (.pointer (some ⟨bl, off + k1, none⟩)) | 7 => .eq (.int .i64 z1) | 8 => .eq (.int .i64 (kd : Int)) | 9 => .eq (.int .u8 (kd : Int)) | 10 => .eq (.slice (some ⟨bl, off, none⟩) ln cap) | 11 => .eq (.int .i64 (i : Int)) | 12 => .eq (.int .i64 (m4 : Int)) | 13 => .eq (.int .i64 (k2 : Int)) | 14 => .eq (.pointer (some ⟨bl, off + k2, none⟩)) | 15 => .eq (.int .i64 z2) | 16 => .eq (.slice (some ⟨bl, off, none⟩) ln cap) | 17 => .eq (.int .i64 (i : Int)) | 18 => .eq (.int .i64 (m4 : Int)) | 19 => .eq (.int .i64 (k3 : Int)) | 20 => .eq (.pointer (some ⟨bl, off + k3, none⟩)) | 21 => .eq (.int .i64 z3) | 22 => .eq (.slice (some ⟨bl, off, none⟩) ln cap) | 23 => .eq (.int .i64 (i : Int)) | 24 => .eq (.int .i64 (m4 : Int)) | 25 => .eq (.int .i64 (k4 : Int)) | 26 => .eq (.pointer (some ⟨bl, off + k4, none⟩)) | 27 => .eq (.int .i64 z4) | 28 => .eq (.agg #[.int .u8 (kd : Int), .int .i64 z2, .int .i64 z3, .int .i64 z4]) | 29 => .lit ([.int .u8 (kd : Int), .int .i64 z2, .int .i64 z3, .int .i64 z4]) (53) | 30 => .own | 31 => .eq (.pointer (some ⟨w.heap.size + 1, 0, none⟩)) | _ => .any)) (CQ WB (w.heap.size + 1) 30 32 (fun v => #[v, .slice none 0 0]) vs (fun w v => OwnS w WB.heap.size v L) (fun w v => OwnS w WB.heap.size v (L ++ [⟨kd, z2, z3, z4⟩]))) _) (by kernel_rfl) ?_ ?_ (GJ.start (CQ.start (fun _ _ _ h hb => h.after hb) hF.out hO.out hBX.out))
      · intro listed a w9 i hr hj
        obtain ⟨hi12, hun, _, _, _⟩ := ready_mem hr
        have h12 : i ∈ List.range 33 := List.mem_range.2 hi12
        simp only [List.range, List.range.loop, List.mem_cons, List.not_mem_nil, or_false] at h12
        obtain ⟨f, rfl, hcm, hf⟩ := hj.opened [36, 37, 38, 39, 40, 41, 42, 43, 44, 45, 46, 47, 48, 49, 50, 51, 52, 53, 54, 55, 56, 57, 58, 59, 60, 61, 62, 63, 64, 65, 66, 67] (by kernel_rfl)
        replace hcm : CQ WB (w.heap.size + 1) 30 32 (fun v => #[v, .slice none 0 0]) vs (fun w v => OwnS w WB.heap.size v L) (fun w v => OwnS w WB.heap.size v (L ++ [⟨kd, z2, z3, z4⟩])) listed f w9 := hcm
        have hlsz : listed.size = 33 := hj.lsize
        rcases h12 with rfl | rfl | rfl | rfl | rfl | rfl | rfl | rfl | rfl | rfl | rfl | rfl | rfl | rfl | rfl | rfl | rfl | rfl | rfl | rfl | rfl | rfl | rfl | rfl | rfl | rfl | rfl | rfl | rfl | rfl | rfl | rfl | rfl
        · have nS : ¬ up listed 32 := fun h => not_up hun (hj.closed 32 0 h (by kernel_rfl))
          have klt := (hcm.box nS).lt
          have HCM := Lib.hid hcm
          clear hcm
          refine GJ.op hj (by kernel_rfl) hr rfl [36, 37, 38, 39, 40, 41, 42, 43, 44, 45, 46, 47, 48, 49, 50, 51, 52, 53, 54, 55, 56, 57, 58, 59, 60, 61, 62, 63, 64, 65, 66, 67] (by kernel_rfl) (fun K hK => ?_)
          simp only [Act.put, List.foldl_cons, List.foldl_nil, List.setIfInBounds_toArray, List.set_cons_zero, List.set_cons_succ] at hK ⊢
          clear hj hf
          go_simp
          exact hK _ _ (fun k v _ _ h => h.keep (fun _ _ _ h hb => h.after hb) (Below.refl _ _)) (fun t ht => SQ.of (.eq (.pointer (some ⟨w.heap.size + 1, 0, none⟩))) rfl rfl) (HCM.out.keep (fun _ _ _ h hb => h.after hb) (fun _ _ _ h hb => h.after hb) (by decide) (by decide) (Below.refl _ _))
        · have e1 : f 36 = .pointer (some ⟨w.heap.size + 1, 0, none⟩) := hf 0 _ _ rfl rfl (up_dep hr (by kernel_rfl))
          have nS : ¬ up listed 32 := fun h => not_up hun (hj.closed 32 1 h (by kernel_rfl))
          have kx : w9.cell? ⟨w.heap.size + 1, 0, none⟩ = some (vs) := (hcm.box nS).cell 0
          have klt := (hcm.box nS).lt
          have HCM := Lib.hid hcm
          clear hcm
          refine GJ.op hj (by kernel_rfl) hr rfl [36, 37, 38, 39, 40, 41, 42, 43, 44, 45, 46, 47, 48, 49, 50, 51, 52, 53, 54, 55, 56, 57, 58, 59, 60, 61, 62, 63, 64, 65, 66, 67] (by kernel_rfl) (fun K hK => ?_)
          simp only [Act.put, List.foldl_cons, List.foldl_nil, List.setIfInBounds_toArray, List.set_cons_zero, List.set_cons_succ] at hK ⊢
          clear hj hf
          rw [e1] at hK ⊢
          clear e1
          go_simp
          exact hK _ _ (fun k v _ _ h => h.keep (fun _ _ _ h hb => h.after hb) (Below.refl _ _)) (fun t ht => SQ.of (.eq (vs)) rfl rfl) (HCM.out.keep (fun _ _ _ h hb => h.after hb) (fun _ _ _ h hb => h.after hb) (by decide) (by decide) (Below.refl _ _))
        · have HCM := Lib.hid hcm
          clear hcm
          refine GJ.op hj (by kernel_rfl) hr rfl [36, 37, 38, 39, 40, 41, 42, 43, 44, 45, 46, 47, 48, 49, 50, 51, 52, 53, 54, 55, 56, 57, 58, 59, 60, 61, 62, 63, 64, 65, 66, 67] (by kernel_rfl) (fun K hK => ?_)
          simp only [Act.put, List.foldl_cons, List.foldl_nil, List.setIfInBounds_toArray, List.set_cons_zero, List.set_cons_succ] at hK ⊢
          clear hj hf
          go_simp
          exact hK _ _ (fun k v _ _ h => h.keep (fun _ _ _ h hb => h.after hb) (Below.refl _ _)) (fun t ht => SQ.of (.eq (.slice (some ⟨bl, off, none⟩) ln cap)) rfl rfl) (HCM.out.keep (fun _ _ _ h hb => h.after hb) (fun _ _ _ h hb => h.after hb) (by decide) (by decide) (Below.refl _ _))
        · have HCM := Lib.hid hcm
          clear hcm
          refine GJ.op hj (by kernel_rfl) hr rfl [36, 37, 38, 39, 40, 41, 42, 43, 44, 45, 46, 47, 48, 49, 50, 51, 52, 53, 54, 55, 56, 57, 58, 59, 60, 61, 62, 63, 64, 65, 66, 67] (by kernel_rfl) (fun K hK => ?_)
          simp only [Act.put, List.foldl_cons, List.foldl_nil, List.setIfInBounds_toArray, List.set_cons_zero, List.set_cons_succ] at hK ⊢
          clear hj hf
          go_simp
          exact hK _ _ (fun k v _ _ h => h.keep (fun _ _ _ h hb => h.after hb) (Below.refl _ _)) (fun t ht => SQ.of (.eq (.int .i64 (i : Int))) rfl rfl) (HCM.out.keep (fun _ _ _ h hb => h.after hb) (fun _ _ _ h hb => h.after hb) (by decide) (by decide) (Below.refl _ _))
        · have e1 : f 39 = .int .i64 (i : Int) := hf 3 _ _ rfl rfl (up_dep hr (by kernel_rfl))
          have h4 := HM4.out
          have HCM := Lib.hid hcm
          clear hcm
          refine GJ.op hj (by kernel_rfl) hr rfl [36, 37, 38, 39, 40, 41, 42, 43, 44, 45, 46, 47, 48, 49, 50, 51, 52, 53, 54, 55, 56, 57, 58, 59, 60, 61, 62, 63, 64, 65, 66, 67] (by kernel_rfl) (fun K hK => ?_)
          simp only [Act.put, List.foldl_cons, List.foldl_nil, List.setIfInBounds_toArray, List.set_cons_zero, List.set_cons_succ] at hK ⊢
          clear hj hf
          rw [e1] at hK ⊢
          clear e1
          go_simp
          rw [wrap_in (z := (m4 : Int)) (by omega) (by omega)]
          exact hK _ _ (fun k v _ _ h => h.keep (fun _ _ _ h hb => h.after hb) (Below.refl _ _)) (fun t ht => SQ.of (.eq (.int .i64 (m4 : Int))) rfl rfl) (HCM.out.keep (fun _ _ _ h hb => h.after hb) (fun _ _ _ h hb => h.after hb) (by decide) (by decide) (Below.refl _ _))
        · have e1 : f 40 = .int .i64 (m4 : Int) := hf 4 _ _ rfl rfl (up_dep hr (by kernel_rfl))
          have h4 := HK1.out
          have h5 := HKL1.out
          have HCM := Lib.hid hcm
          clear hcm
          refine GJ.op hj (by kernel_rfl) hr rfl [36, 37, 38, 39, 40, 41, 42, 43, 44, 45, 46, 47, 48, 49, 50, 51, 52, 53, 54, 55, 56, 57, 58, 59, 60, 61, 62, 63, 64, 65, 66, 67] (by kernel_rfl) (fun K hK => ?_)
          simp only [Act.put, List.foldl_cons, List.foldl_nil, List.setIfInBounds_toArray, List.set_cons_zero, List.set_cons_succ] at hK ⊢
          clear hj hf
          rw [e1] at hK ⊢
          clear e1
          go_simp
          rw [wrap_in (z := (k1 : Int)) (by omega) (by omega)]
          exact hK _ _ (fun k v _ _ h => h.keep (fun _ _ _ h hb => h.after hb) (Below.refl _ _)) (fun t ht => SQ.of (.eq (.int .i64 (k1 : Int))) rfl rfl) (HCM.out.keep (fun _ _ _ h hb => h.after hb) (fun _ _ _ h hb => h.after hb) (by decide) (by decide) (Below.refl _ _))
        · have e1 : f 38 = .slice (some ⟨bl, off, none⟩) ln cap := hf 2 _ _ rfl rfl (up_dep hr (by kernel_rfl))
          have e2 : f 41 = .int .i64 (k1 : Int) := hf 5 _ _ rfl rfl (up_dep hr (by kernel_rfl))
          have h4 := HKL1.out
          have h5 : (k1 : Int) < (ln : Int) := by omega
          have h6 : (0 : Int) ≤ (k1 : Int) := by omega
          have HCM := Lib.hid hcm
          clear hcm
          refine GJ.op hj (by kernel_rfl) hr rfl [36, 37, 38, 39, 40, 41, 42, 43, 44, 45, 46, 47, 48, 49, 50, 51, 52, 53, 54, 55, 56, 57, 58, 59, 60, 61, 62, 63, 64, 65, 66, 67] (by kernel_rfl) (fun K hK => ?_)
          simp only [Act.put, List.foldl_cons, List.foldl_nil, List.setIfInBounds_toArray, List.set_cons_zero, List.set_cons_succ] at hK ⊢
          clear hj hf
          rw [e1, e2] at hK ⊢
          clear e1 e2
          go_simp
          exact hK _ _ (fun k v _ _ h => h.keep (fun _ _ _ h hb => h.after hb) (Below.refl _ _)) (fun t ht => SQ.of (.eq (.pointer (some ⟨bl, off + k1, none⟩))) rfl rfl) (HCM.out.keep (fun _ _ _ h hb => h.after hb) (fun _ _ _ h hb => h.after hb) (by decide) (by decide) (Below.refl _ _))
        · have e1 : f 42 = .pointer (some ⟨bl, off + k1, none⟩) := hf 6 _ _ rfl rfl (up_dep hr (by kernel_rfl))
          have kx : w9.cell? ⟨bl, off + k1, none⟩ = some (.int .i64 z1) := hcm.fx.cell HC1.out HNE.out
          have klt := Nat.lt_of_lt_of_le HBL.out hcm.fx.size
          have HCM := Lib.hid hcm
          clear hcm
          refine GJ.op hj (by kernel_rfl) hr rfl [36, 37, 38, 39, 40, 41, 42, 43, 44, 45, 46, 47, 48, 49, 50, 51, 52, 53, 54, 55, 56, 57, 58, 59, 60, 61, 62, 63, 64, 65, 66, 67] (by kernel_rfl) (fun K hK => ?_)
          simp only [Act.put, List.foldl_cons, List.foldl_nil, List.setIfInBounds_toArray, List.set_cons_zero, List.set_cons_succ] at hK ⊢
          clear hj hf
          rw [e1] at hK ⊢
          clear e1
          go_simp
          exact hK _ _ (fun k v _ _ h => h.keep (fun _ _ _ h hb => h.after hb) (Below.refl _ _)) (fun t ht => SQ.of (.eq (.int .i64 z1)) rfl rfl) (HCM.out.keep (fun _ _ _ h hb => h.after hb) (fun _ _ _ h hb => h.after hb) (by decide) (by decide) (Below.refl _ _))
        · have e1 : f 43 = .int .i64 z1 := hf 7 _ _ rfl rfl (up_dep hr (by kernel_rfl))
          have h4 := HT1.out
          have h5 := HT2.out
          have HCM := Lib.hid hcm
          clear hcm
          refine GJ.op hj (by kernel_rfl) hr rfl [36, 37, 38, 39, 40, 41, 42, 43, 44, 45, 46, 47, 48, 49, 50, 51, 52, 53, 54, 55, 56, 57, 58, 59, 60, 61, 62, 63, 64, 65, 66, 67] (by kernel_rfl) (fun K hK => ?_)
          simp only [Act.put, List.foldl_cons, List.foldl_nil, List.setIfInBounds_toArray, List.set_cons_zero, List.set_cons_succ] at hK ⊢
          clear hj hf
          rw [e1] at hK ⊢
          clear e1
          go_simp
          exact hK _ _ (fun k v _ _ h => h.keep (fun _ _ _ h hb => h.after hb) (Below.refl _ _)) (fun t ht => SQ.of (.eq (.int .i64 (kd : Int))) rfl rfl) (HCM.out.keep (fun _ _ _ h hb => h.after hb) (fun _ _ _ h hb => h.after hb) (by decide) (by decide) (Below.refl _ _))
        · have e1 : f 44 = .int .i64 (kd : Int) := hf 8 _ _ rfl rfl (up_dep hr (by kernel_rfl))
          have h4 := HK8.out
          have HCM := Lib.hid hcm
          clear hcm
          refine GJ.op hj (by kernel_rfl) hr rfl [36, 37, 38, 39, 40, 41, 42, 43, 44, 45, 46, 47, 48, 49, 50, 51, 52, 53, 54, 55, 56, 57, 58, 59, 60, 61, 62, 63, 64, 65, 66, 67] (by kernel_rfl) (fun K hK => ?_)
          simp only [Act.put, List.foldl_cons, List.foldl_nil, List.setIfInBounds_toArray, List.set_cons_zero, List.set_cons_succ] at hK ⊢
          clear hj hf
          rw [e1] at hK ⊢
          clear e1
          go_simp
          exact hK _ _ (fun k v _ _ h => h.keep (fun _ _ _ h hb => h.after hb) (Below.refl _ _)) (fun t ht => SQ.of (.eq (.int .u8 (kd : Int))) rfl rfl) (HCM.out.keep (fun _ _ _ h hb => h.after hb) (fun _ _ _ h hb => h.after hb) (by decide) (by decide) (Below.refl _ _))
        · have HCM := Lib.hid hcm
          clear hcm
          refine GJ.op hj (by kernel_rfl) hr rfl [36, 37, 38, 39, 40, 41, 42, 43, 44, 45, 46, 47, 48, 49, 50, 51, 52, 53, 54, 55, 56, 57, 58, 59, 60, 61, 62, 63, 64, 65, 66, 67] (by kernel_rfl) (fun K hK => ?_)
          simp only [Act.put, List.foldl_cons, List.foldl_nil, List.setIfInBounds_toArray, List.set_cons_zero, List.set_cons_succ] at hK ⊢
          clear hj hf
          go_simp
          exact hK _ _ (fun k v _ _ h => h.keep (fun _ _ _ h hb => h.after hb) (Below.refl _ _)) (fun t ht => SQ.of (.eq (.slice (some ⟨bl, off, none⟩) ln cap)) rfl rfl) (HCM.out.keep (fun _ _ _ h hb => h.after hb) (fun _ _ _ h hb => h.after hb) (by decide) (by decide) (Below.refl _ _))
        · have HCM := Lib.hid hcm
          clear hcm
          refine GJ.op hj (by kernel_rfl) hr rfl [36, 37, 38, 39, 40, 41, 42, 43, 44, 45, 46, 47, 48, 49, 50, 51, 52, 53, 54, 55, 56, 57, 58, 59, 60, 61, 62, 63, 64, 65, 66, 67] (by kernel_rfl) (fun K hK => ?_)
          simp only [Act.put, List.foldl_cons, List.foldl_nil, List.setIfInBounds_toArray, List.set_cons_zero, List.set_cons_succ] at hK ⊢
          clear hj hf
          go_simp
          exact hK _ _ (fun k v _ _ h => h.keep (fun _ _ _ h hb => h.after hb) (Below.refl _ _)) (fun t ht => SQ.of (.eq (.int .i64 (i : Int))) rfl rfl) (HCM.out.keep (fun _ _ _ h hb => h.after hb) (fun _ _ _ h hb => h.after hb) (by decide) (by decide) (Below.refl _ _))
        · have e1 : f 47 = .int .i64 (i : Int) := hf 11 _ _ rfl rfl (up_dep hr (by kernel_rfl))
          have h4 := HM4.out
          have HCM := Lib.hid hcm
          clear hcm
          refine GJ.op hj (by kernel_rfl) hr rfl [36, 37, 38, 39, 40, 41, 42, 43, 44, 45, 46, 47, 48, 49, 50, 51, 52, 53, 54, 55, 56, 57, 58, 59, 60, 61, 62, 63, 64, 65, 66, 67] (by kernel_rfl) (fun K hK => ?_)
          simp only [Act.put, List.foldl_cons, List.foldl_nil, List.setIfInBounds_toArray, List.set_cons_zero, List.set_cons_succ] at hK ⊢
          clear hj hf
          rw [e1] at hK ⊢
          clear e1
          go_simp
          rw [wrap_in (z := (m4 : Int)) (by omega) (by omega)]
          exact hK _ _ (fun k v _ _ h => h.keep (fun _ _ _ h hb => h.after hb) (Below.refl _ _)) (fun t ht => SQ.of (.eq (.int .i64 (m4 : Int))) rfl rfl) (HCM.out.keep (fun _ _ _ h hb => h.after hb) (fun _ _ _ h hb => h.after hb) (by decide) (by decide) (Below.refl _ _))
        · have e1 : f 48 = .int .i64 (m4 : Int) := hf 12 _ _ rfl rfl (up_dep hr (by kernel_rfl))
          have h4 := HK2.out
          have h5 := HKL2.out
          have HCM := Lib.hid hcm
          clear hcm
          refine GJ.op hj (by kernel_rfl) hr rfl [36, 37, 38, 39, 40, 41, 42, 43, 44, 45, 46, 47, 48, 49, 50, 51, 52, 53, 54, 55, 56, 57, 58, 59, 60, 61, 62, 63, 64, 65, 66, 67] (by kernel_rfl) (fun K hK => ?_)
          simp only [Act.put, List.foldl_cons, List.foldl_nil, List.setIfInBounds_toArray, List.set_cons_zero, List.set_cons_succ] at hK ⊢
          clear hj hf
          rw [e1] at hK ⊢
          clear e1
          go_simp
          rw [wrap_in (z := (k2 : Int)) (by omega) (by omega)]
          exact hK _ _ (fun k v _ _ h => h.keep (fun _ _ _ h hb => h.after hb) (Below.refl _ _)) (fun t ht => SQ.of (.eq (.int .i64 (k2 : Int))) rfl rfl) (HCM.out.keep (fun _ _ _ h hb => h.after hb) (fun _ _ _ h hb => h.after hb) (by decide) (by decide) (Below.refl _ _))
        · have e1 : f 46 = .slice (some ⟨bl, off, none⟩) ln cap := hf 10 _ _ rfl rfl (up_dep hr (by kernel_rfl))
          have e2 : f 49 = .int .i64 (k2 : Int) := hf 13 _ _ rfl rfl (up_dep hr (by kernel_rfl))
          have h4 := HKL2.out
          have h5 : (k2 : Int) < (ln : Int) := by omega
          have h6 : (0 : Int) ≤ (k2 : Int) := by omega
          have HCM := Lib.hid hcm
          clear hcm
          refine GJ.op hj (by kernel_rfl) hr rfl [36, 37, 38, 39, 40, 41, 42, 43, 44, 45, 46, 47, 48, 49, 50, 51, 52, 53, 54, 55, 56, 57, 58, 59, 60, 61, 62, 63, 64, 65, 66, 67] (by kernel_rfl) (fun K hK => ?_)
          simp only [Act.put, List.foldl_cons, List.foldl_nil, List.setIfInBounds_toArray, List.set_cons_zero, List.set_cons_succ] at hK ⊢
          clear hj hf
          rw [e1, e2] at hK ⊢
          clear e1 e2
          go_simp
          exact hK _ _ (fun k v _ _ h => h.keep (fun _ _ _ h hb => h.after hb) (Below.refl _ _)) (fun t ht => SQ.of (.eq (.pointer (some ⟨bl, off + k2, none⟩))) rfl rfl) (HCM.out.keep (fun _ _ _ h hb => h.after hb) (fun _ _ _ h hb => h.after hb) (by decide) (by decide) (Below.refl _ _))
        · have e1 : f 50 = .pointer (some ⟨bl, off + k2, none⟩) := hf 14 _ _ rfl rfl (up_dep hr (by kernel_rfl))
          have kx : w9.cell? ⟨bl, off + k2, none⟩ = some (.int .i64 z2) := hcm.fx.cell HC2.out HNE.out
          have klt := Nat.lt_of_lt_of_le HBL.out hcm.fx.size
          have HCM := Lib.hid hcm
          clear hcm
          refine GJ.op hj (by kernel_rfl) hr rfl [36, 37, 38, 39, 40, 41, 42, 43, 44, 45, 46, 47, 48, 49, 50, 51, 52, 53, 54, 55, 56, 57, 58, 59, 60, 61, 62, 63, 64, 65, 66, 67] (by kernel_rfl) (fun K hK => ?_)
          simp only [Act.put, List.foldl_cons, List.foldl_nil, List.setIfInBounds_toArray, List.set_cons_zero, List.set_cons_succ] at hK ⊢
          clear hj hf
          rw [e1] at hK ⊢
          clear e1
          go_simp
          exact hK _ _ (fun k v _ _ h => h.keep (fun _ _ _ h hb => h.after hb) (Below.refl _ _)) (fun t ht => SQ.of (.eq (.int .i64 z2)) rfl rfl) (HCM.out.keep (fun _ _ _ h hb => h.after hb) (fun _ _ _ h hb => h.after hb) (by decide) (by decide) (Below.refl _ _))
        · have HCM := Lib.hid hcm
          clear hcm
          refine GJ.op hj (by kernel_rfl) hr rfl [36, 37, 38, 39, 40, 41, 42, 43, 44, 45, 46, 47, 48, 49, 50, 51, 52, 53, 54, 55, 56, 57, 58, 59, 60, 61, 62, 63, 64, 65, 66, 67] (by kernel_rfl) (fun K hK => ?_)
          simp only [Act.put, List.foldl_cons, List.foldl_nil, List.setIfInBounds_toArray, List.set_cons_zero, List.set_cons_succ] at hK ⊢
          clear hj hf
          go_simp
          exact hK _ _ (fun k v _ _ h => h.keep (fun _ _ _ h hb => h.after hb) (Below.refl _ _)) (fun t ht => SQ.of (.eq (.slice (some ⟨bl, off, none⟩) ln cap)) rfl rfl) (HCM.out.keep (fun _ _ _ h hb => h.after hb) (fun _ _ _ h hb => h.after hb) (by decide) (by decide) (Below.refl _ _))
        · have HCM := Lib.hid hcm
          clear hcm
          refine GJ.op hj (by kernel_rfl) hr rfl [36, 37, 38, 39, 40, 41, 42, 43, 44, 45, 46, 47, 48, 49, 50, 51, 52, 53, 54, 55, 56, 57, 58, 59, 60, 61, 62, 63, 64, 65, 66, 67] (by kernel_rfl) (fun K hK => ?_)
          simp only [Act.put, List.foldl_cons, List.foldl_nil, List.setIfInBounds_toArray, List.set_cons_zero, List.set_cons_succ] at hK ⊢
          clear hj hf
          go_simp
          exact hK _ _ (fun k v _ _ h => h.keep (fun _ _ _ h hb => h.after hb) (Below.refl _ _)) (fun t ht => SQ.of (.eq (.int .i64 (i : Int))) rfl rfl) (HCM.out.keep (fun _ _ _ h hb => h.after hb) (fun _ _ _ h hb => h.after hb) (by decide) (by decide) (Below.refl _ _))
        · have e1 : f 53 = .int .i64 (i : Int) := hf 17 _ _ rfl rfl (up_dep hr (by kernel_rfl))
          have h4 := HM4.out
          have HCM := Lib.hid hcm
          clear hcm
          refine GJ.op hj (by kernel_rfl) hr rfl [36, 37, 38, 39, 40, 41, 42, 43, 44, 45, 46, 47, 48, 49, 50, 51, 52, 53, 54, 55, 56, 57, 58, 59, 60, 61, 62, 63, 64, 65, 66, 67] (by kernel_rfl) (fun K hK => ?_)
          simp only [Act.put, List.foldl_cons, List.foldl_nil, List.setIfInBounds_toArray, List.set_cons_zero, List.set_cons_succ] at hK ⊢
          clear hj hf
          rw [e1] at hK ⊢
          clear e1
          go_simp
          rw [wrap_in (z := (m4 : Int)) (by omega) (by omega)]
          exact hK _ _ (fun k v _ _ h => h.keep (fun _ _ _ h hb => h.after hb) (Below.refl _ _)) (fun t ht => SQ.of (.eq (.int .i64 (m4 : Int))) rfl rfl) (HCM.out.keep (fun _ _ _ h hb => h.after hb) (fun _ _ _ h hb => h.after hb) (by decide) (by decide) (Below.refl _ _))
        · have e1 : f 54 = .int .i64 (m4 : Int) := hf 18 _ _ rfl rfl (up_dep hr (by kernel_rfl))
          have h4 := HK3.out
          have h5 := HKL3.out
          have HCM := Lib.hid hcm
          clear hcm
          refine GJ.op hj (by kernel_rfl) hr rfl [36, 37, 38, 39, 40, 41, 42, 43, 44, 45, 46, 47, 48, 49, 50, 51, 52, 53, 54, 55, 56, 57, 58, 59, 60, 61, 62, 63, 64, 65, 66, 67] (by kernel_rfl) (fun K hK => ?_)
          simp only [Act.put, List.foldl_cons, List.foldl_nil, List.setIfInBounds_toArray, List.set_cons_zero, List.set_cons_succ] at hK ⊢
          clear hj hf
          rw [e1] at hK ⊢
          clear e1
          go_simp
          rw [wrap_in (z := (k3 : Int)) (by omega) (by omega)]
          exact hK _ _ (fun k v _ _ h => h.keep (fun _ _ _ h hb => h.after hb) (Below.refl _ _)) (fun t ht => SQ.of (.eq (.int .i64 (k3 : Int))) rfl rfl) (HCM.out.keep (fun _ _ _ h hb => h.after hb) (fun _ _ _ h hb => h.after hb) (by decide) (by decide) (Below.refl _ _))
        · have e1 : f 52 = .slice (some ⟨bl, off, none⟩) ln cap := hf 16 _ _ rfl rfl (up_dep hr (by kernel_rfl))
          have e2 : f 55 = .int .i64 (k3 : Int) := hf 19 _ _ rfl rfl (up_dep hr (by kernel_rfl))
          have h4 := HKL3.out
          have h5 : (k3 : Int) < (ln : Int) := by omega
          have h6 : (0 : Int) ≤ (k3 : Int) := by omega
          have HCM := Lib.hid hcm
          clear hcm
          refine GJ.op hj (by kernel_rfl) hr rfl [36, 37, 38, 39, 40, 41, 42, 43, 44, 45, 46, 47, 48, 49, 50, 51, 52, 53, 54, 55, 56, 57, 58, 59, 60, 61, 62, 63, 64, 65, 66, 67] (by kernel_rfl) (fun K hK => ?_)
          simp only [Act.put, List.foldl_cons, List.foldl_nil, List.setIfInBounds_toArray, List.set_cons_zero, List.set_cons_succ] at hK ⊢
          clear hj hf
          rw [e1, e2] at hK ⊢
          clear e1 e2
          go_simp
          exact hK _ _ (fun k v _ _ h => h.keep (fun _ _ _ h hb => h.after hb) (Below.refl _ _)) (fun t ht => SQ.of (.eq (.pointer (some ⟨bl, off + k3, none⟩))) rfl rfl) (HCM.out.keep (fun _ _ _ h hb => h.after hb) (fun _ _ _ h hb => h.after hb) (by decide) (by decide) (Below.refl _ _))
        · have e1 : f 56 = .pointer (some ⟨bl, off + k3, none⟩) := hf 20 _ _ rfl rfl (up_dep hr (by kernel_rfl))
          have kx : w9.cell? ⟨bl, off + k3, none⟩ = some (.int .i64 z3) := hcm.fx.cell HC3.out HNE.out
          have klt := Nat.lt_of_lt_of_le HBL.out hcm.fx.size
          have HCM := Lib.hid hcm
          clear hcm
          refine GJ.op hj (by kernel_rfl) hr rfl [36, 37, 38, 39, 40, 41, 42, 43, 44, 45, 46, 47, 48, 49, 50, 51, 52, 53, 54, 55, 56, 57, 58, 59, 60, 61, 62, 63, 64, 65, 66, 67] (by kernel_rfl) (fun K hK => ?_)
          simp only [Act.put, List.foldl_cons, List.foldl_nil, List.setIfInBounds_toArray, List.set_cons_zero, List.set_cons_succ] at hK ⊢
          clear hj hf
          rw [e1] at hK ⊢
          clear e1
          go_simp
          exact hK _ _ (fun k v _ _ h => h.keep (fun _ _ _ h hb => h.after hb) (Below.refl _ _)) (fun t ht => SQ.of (.eq (.int .i64 z3)) rfl rfl) (HCM.out.keep (fun _ _ _ h hb => h.after hb) (fun _ _ _ h hb => h.after hb) (by decide) (by decide) (Below.refl _ _))
        · have HCM := Lib.hid hcm
          clear hcm
          refine GJ.op hj (by kernel_rfl) hr rfl [36, 37, 38, 39, 40, 41, 42, 43, 44, 45, 46, 47, 48, 49, 50, 51, 52, 53, 54, 55, 56, 57, 58, 59, 60, 61, 62, 63, 64, 65, 66, 67] (by kernel_rfl) (fun K hK => ?_)
          simp only [Act.put, List.foldl_cons, List.foldl_nil, List.setIfInBounds_toArray, List.set_cons_zero, List.set_cons_succ] at hK ⊢
          clear hj hf
          go_simp
          exact hK _ _ (fun k v _ _ h => h.keep (fun _ _ _ h hb => h.after hb) (Below.refl _ _)) (fun t ht => SQ.of (.eq (.slice (some ⟨bl, off, none⟩) ln cap)) rfl rfl) (HCM.out.keep (fun _ _ _ h hb => h.after hb) (fun _ _ _ h hb => h.after hb) (by decide) (by decide) (Below.refl _ _))
        · have HCM := Lib.hid hcm
          clear hcm
          refine GJ.op hj (by kernel_rfl) hr rfl [36, 37, 38, 39, 40, 41, 42, 43, 44, 45, 46, 47, 48, 49, 50, 51, 52, 53, 54, 55, 56, 57, 58, 59, 60, 61, 62, 63, 64, 65, 66, 67] (by kernel_rfl) (fun K hK => ?_)
          simp only [Act.put, List.foldl_cons, List.foldl_nil, List.setIfInBounds_toArray, List.set_cons_zero, List.set_cons_succ] at hK ⊢
          clear hj hf
          go_simp
          exact hK _ _ (fun k v _ _ h => h.keep (fun _ _ _ h hb => h.after hb) (Below.refl _ _)) (fun t ht => SQ.of (.eq (.int .i64 (i : Int))) rfl rfl) (HCM.out.keep (fun _ _ _ h hb => h.after hb) (fun _ _ _ h hb => h.after hb) (by decide) (by decide) (Below.refl _ _))
        · have e1 : f 59 = .int .i64 (i : Int) := hf 23 _ _ rfl rfl (up_dep hr (by kernel_rfl))
          have h4 := HM4.out
          have HCM := Lib.hid hcm
          clear hcm
          refine GJ.op hj (by kernel_rfl) hr rfl [36, 37, 38, 39, 40, 41, 42, 43, 44, 45, 46, 47, 48, 49, 50, 51, 52, 53, 54, 55, 56, 57, 58, 59, 60, 61, 62, 63, 64, 65, 66, 67] (by kernel_rfl) (fun K hK => ?_)
          simp only [Act.put, List.foldl_cons, List.foldl_nil, List.setIfInBounds_toArray, List.set_cons_zero, List.set_cons_succ] at hK ⊢
          clear hj hf
          rw [e1] at hK ⊢
          clear e1
          go_simp
          rw [wrap_in (z := (m4 : Int)) (by omega) (by omega)]
          exact hK _ _ (fun k v _ _ h => h.keep (fun _ _ _ h hb => h.after hb) (Below.refl _ _)) (fun t ht => SQ.of (.eq (.int .i64 (m4 : Int))) rfl rfl) (HCM.out.keep (fun _ _ _ h hb => h.after hb) (fun _ _ _ h hb => h.after hb) (by decide) (by decide) (Below.refl _ _))
        · have e1 : f 60 = .int .i64 (m4 : Int) := hf 24 _ _ rfl rfl (up_dep hr (by kernel_rfl))
          have h4 := HK4.out
          have h5 := HKL4.out
          have HCM := Lib.hid hcm
          clear hcm
          refine GJ.op hj (by kernel_rfl) hr rfl [36, 37, 38, 39, 40, 41, 42, 43, 44, 45, 46, 47, 48, 49, 50, 51, 52, 53, 54, 55, 56, 57, 58, 59, 60, 61, 62, 63, 64, 65, 66, 67] (by kernel_rfl) (fun K hK => ?_)
          simp only [Act.put, List.foldl_cons, List.foldl_nil, List.setIfInBounds_toArray, List.set_cons_zero, List.set_cons_succ] at hK ⊢
          clear hj hf
          rw [e1] at hK ⊢
          clear e1
          go_simp
          rw [wrap_in (z := (k4 : Int)) (by omega) (by omega)]
          exact hK _ _ (fun k v _ _ h => h.keep (fun _ _ _ h hb => h.after hb) (Below.refl _ _)) (fun t ht => SQ.of (.eq (.int .i64 (k4 : Int))) rfl rfl) (HCM.out.keep (fun _ _ _ h hb => h.after hb) (fun _ _ _ h hb => h.after hb) (by decide) (by decide) (Below.refl _ _))
        · have e1 : f 58 = .slice (some ⟨bl, off, none⟩) ln cap := hf 22 _ _ rfl rfl (up_dep hr (by kernel_rfl))
          have e2 : f 61 = .int .i64 (k4 : Int) := hf 25 _ _ rfl rfl (up_dep hr (by kernel_rfl))
          have h4 := HKL4.out
          have h5 : (k4 : Int) < (ln : Int) := by omega
          have h6 : (0 : Int) ≤ (k4 : Int) := by omega
          have HCM := Lib.hid hcm
          clear hcm
          refine GJ.op hj (by kernel_rfl) hr rfl [36, 37, 38, 39, 40, 41, 42, 43, 44, 45, 46, 47, 48, 49, 50, 51, 52, 53, 54, 55, 56, 57, 58, 59, 60, 61, 62, 63, 64, 65, 66, 67] (by kernel_rfl) (fun K hK => ?_)
          simp only [Act.put, List.foldl_cons, List.foldl_nil, List.setIfInBounds_toArray, List.set_cons_zero, List.set_cons_succ] at hK ⊢
          clear hj hf
          rw [e1, e2] at hK ⊢
          clear e1 e2
          go_simp
          exact hK _ _ (fun k v _ _ h => h.keep (fun _ _ _ h hb => h.after hb) (Below.refl _ _)) (fun t ht => SQ.of (.eq (.pointer (some ⟨bl, off + k4, none⟩))) rfl rfl) (HCM.out.keep (fun _ _ _ h hb => h.after hb) (fun _ _ _ h hb => h.after hb) (by decide) (by decide) (Below.refl _ _))
        · have e1 : f 62 = .pointer (some ⟨bl, off + k4, none⟩) := hf 26 _ _ rfl rfl (up_dep hr (by kernel_rfl))
          have kx : w9.cell? ⟨bl, off + k4, none⟩ = some (.int .i64 z4) := hcm.fx.cell HC4.out HNE.out
          have klt := Nat.lt_of_lt_of_le HBL.out hcm.fx.size
          have HCM := Lib.hid hcm
          clear hcm
          refine GJ.op hj (by kernel_rfl) hr rfl [36, 37, 38, 39, 40, 41, 42, 43, 44, 45, 46, 47, 48, 49, 50, 51, 52, 53, 54, 55, 56, 57, 58, 59, 60, 61, 62, 63, 64, 65, 66, 67] (by kernel_rfl) (fun K hK => ?_)
          simp only [Act.put, List.foldl_cons, List.foldl_nil, List.setIfInBounds_toArray, List.set_cons_zero, List.set_cons_succ] at hK ⊢
          clear hj hf
          rw [e1] at hK ⊢
          clear e1
          go_simp
          exact hK _ _ (fun k v _ _ h => h.keep (fun _ _ _ h hb => h.after hb) (Below.refl _ _)) (fun t ht => SQ.of (.eq (.int .i64 z4)) rfl rfl) (HCM.out.keep (fun _ _ _ h hb => h.after hb) (fun _ _ _ h hb => h.after hb) (by decide) (by decide) (Below.refl _ _))
        · have e1 : f 45 = .int .u8 (kd : Int) := hf 9 _ _ rfl rfl (up_dep hr (by kernel_rfl))
          have e2 : f 51 = .int .i64 z2 := hf 15 _ _ rfl rfl (up_dep hr (by kernel_rfl))
          have e3 : f 57 = .int .i64 z3 := hf 21 _ _ rfl rfl (up_dep hr (by kernel_rfl))
          have e4 : f 63 = .int .i64 z4 := hf 27 _ _ rfl rfl (up_dep hr (by kernel_rfl))
          have HCM := Lib.hid hcm
          clear hcm
          refine GJ.op hj (by kernel_rfl) hr rfl [36, 37, 38, 39, 40, 41, 42, 43, 44, 45, 46, 47, 48, 49, 50, 51, 52, 53, 54, 55, 56, 57, 58, 59, 60, 61, 62, 63, 64, 65, 66, 67] (by kernel_rfl) (fun K hK => ?_)
          simp only [Act.put, List.foldl_cons, List.foldl_nil, List.setIfInBounds_toArray, List.set_cons_zero, List.set_cons_succ] at hK ⊢
          clear hj hf
          rw [e1, e2, e3, e4] at hK ⊢
          clear e1 e2 e3 e4
          go_simp
          exact hK _ _ (fun k v _ _ h => h.keep (fun _ _ _ h hb => h.after hb) (Below.refl _ _)) (fun t ht => SQ.of (.eq (.agg #[.int .u8 (kd : Int), .int .i64 z2, .int .i64 z3, .int .i64 z4])) rfl rfl) (HCM.out.keep (fun _ _ _ h hb => h.after hb) (fun _ _ _ h hb => h.after hb) (by decide) (by decide) (Below.refl _ _))
        · have e1 : f 64 = .agg #[.int .u8 (kd : Int), .int .i64 z2, .int .i64 z3, .int .i64 z4] := hf 28 _ _ rfl rfl (up_dep hr (by kernel_rfl))
          have HCM := Lib.hid hcm
          clear hcm
          refine GJ.op hj (by kernel_rfl) hr rfl [36, 37, 38, 39, 40, 41, 42, 43, 44, 45, 46, 47, 48, 49, 50, 51, 52, 53, 54, 55, 56, 57, 58, 59, 60, 61, 62, 63, 64, 65, 66, 67] (by kernel_rfl) (fun K hK => ?_)
          simp only [Act.put, List.foldl_cons, List.foldl_nil, List.setIfInBounds_toArray, List.set_cons_zero, List.set_cons_succ] at hK ⊢
          clear hj hf
          rw [e1] at hK ⊢
          clear e1
          go_simp
          exact hK _ _ (fun k v _ _ h => h.keep (fun _ _ _ h hb => h.after hb) (held_alloc (Below.refl _ _))) (fun t ht => SQ.of (.lit [.int .u8 (kd : Int), .int .i64 z2, .int .i64 z3, .int .i64 z4] 53) rfl (fun _ => ⟨_, rfl, Box.new _ _ _⟩)) (HCM.out.keep (fun _ _ _ h hb => h.after hb) (fun _ _ _ h hb => h.after hb) (by decide) (by decide) (held_alloc (Below.refl _ _)))
        · have e1 : f 37 = vs := hf 1 _ _ rfl rfl (up_dep hr (by kernel_rfl))
          have s2 : KQ.holds WB.heap.size 30 (fun w v => OwnS w WB.heap.size v (L ++ [⟨kd, z2, z3, z4⟩])) listed 29 (.lit ([.int .u8 (kd : Int), .int .i64 z2, .int .i64 z3, .int .i64 z4]) (53)) (f 65) w9 := hf 29 _ _ rfl rfl (up_dep hr (by kernel_rfl))
          have nA := not_up hun
          have nS : ¬ up listed 32 := fun h => nA (hj.closed 32 30 h (by kernel_rfl))
          obtain ⟨bx, e2, hbx⟩ := s2 nA
          have HCM := Lib.hid hcm
          clear hcm
          refine GJ.op hj (by kernel_rfl) hr rfl [36, 37, 38, 39, 40, 41, 42, 43, 44, 45, 46, 47, 48, 49, 50, 51, 52, 53, 54, 55, 56, 57, 58, 59, 60, 61, 62, 63, 64, 65, 66, 67] (by kernel_rfl) (fun K hK => ?_)
          simp only [Act.put, List.foldl_cons, List.foldl_nil, List.setIfInBounds_toArray, List.set_cons_zero, List.set_cons_succ] at hK ⊢
          clear hj hf
          rw [e1] at hK ⊢
          clear e1
          rw [e2] at hK ⊢
          clear e2 s2
          have hbase := HCM.out.fx.size
          refine step_appC ?q3 (.tmp 37) (.tmp 65) 24 ?q4 WB.heap.size 53 4 32 _ Tryz.underlying24 infoStp rfl (by decide) (by decide) vs (L.map stpV) [.int .u8 (kd : Int), .int .i64 z2, .int .i64 z3, .int .i64 z4] ?q1 (HCM.out.own nA).2 rfl (by simp [Value.oneCell']) ⟨bx, 0, none⟩ 1 ?q2 hbx.news (by rw [List.length_map]; exact HLL.out) hbase ?_
          case q1 => rfl
          case q2 => rfl
          case q3 => rfl
          case q4 => rfl
          intro v11 w11 hown11 hf11
          exact hK _ _ (fun k v hne _ h => h.app hne (by rw [hlsz]; decide)) (fun t ht => SQ.of .own rfl (fun _ => OwnS.push (x := ⟨kd, z2, z3, z4⟩) (HCM.out.own nA).1 HXK.out hown11)) (HCM.out.app (by decide) (by rw [hlsz]; decide) HPL.out nS (fun b e => ((HCM.out.own nA).2.lt b e).1) hf11)
        · have nS : ¬ up listed 32 := fun h => not_up hun (hj.closed 32 31 h (by kernel_rfl))
          have klt := (hcm.box nS).lt
          have HCM := Lib.hid hcm
          clear hcm
          refine GJ.op hj (by kernel_rfl) hr rfl [36, 37, 38, 39, 40, 41, 42, 43, 44, 45, 46, 47, 48, 49, 50, 51, 52, 53, 54, 55, 56, 57, 58, 59, 60, 61, 62, 63, 64, 65, 66, 67] (by kernel_rfl) (fun K hK => ?_)
          simp only [Act.put, List.foldl_cons, List.foldl_nil, List.setIfInBounds_toArray, List.set_cons_zero, List.set_cons_succ] at hK ⊢
          clear hj hf
          go_simp
          exact hK _ _ (fun k v _ _ h => h.keep (fun _ _ _ h hb => h.after hb) (Below.refl _ _)) (fun t ht => SQ.of (.eq (.pointer (some ⟨w.heap.size + 1, 0, none⟩))) rfl rfl) (HCM.out.keep (fun _ _ _ h hb => h.after hb) (fun _ _ _ h hb => h.after hb) (by decide) (by decide) (Below.refl _ _))
        · have e1 : f 67 = .pointer (some ⟨w.heap.size + 1, 0, none⟩) := hf 31 _ _ rfl rfl (up_dep hr (by kernel_rfl))
          have s2 : KQ.holds WB.heap.size 30 (fun w v => OwnS w WB.heap.size v (L ++ [⟨kd, z2, z3, z4⟩])) listed 30 (.own) (f 66) w9 := hf 30 _ _ rfl rfl (up_dep hr (by kernel_rfl))
          have nS := not_up hun
          have uA : up listed 30 := up_dep hr (by kernel_rfl)
          have hbx := hcm.box nS
          have HCM := Lib.hid hcm
          clear hcm
          have HO := Lib.hid (s2 rfl)
          obtain ⟨pz, cz, ez, _⟩ := HO.out.2.shape
          obtain ⟨lz, hlz⟩ : ∃ lz, (List.map stpV (L ++ [⟨kd, z2, z3, z4⟩])).length = lz := ⟨_, rfl⟩
          rw [hlz] at ez
          clear s2 hlz
          refine GJ.op hj (by kernel_rfl) hr rfl [36, 37, 38, 39, 40, 41, 42, 43, 44, 45, 46, 47, 48, 49, 50, 51, 52, 53, 54, 55, 56, 57, 58, 59, 60, 61, 62, 63, 64, 65, 66, 67] (by kernel_rfl) (fun K hK => ?_)
          simp only [Act.put, List.foldl_cons, List.foldl_nil, List.setIfInBounds_toArray, List.set_cons_zero, List.set_cons_succ] at hK ⊢
          clear hj hf
          rw [e1] at hK ⊢
          clear e1
          obtain ⟨zb, hzb⟩ : ∃ z, f 66 = z := ⟨_, rfl⟩
          rw [hzb] at hK HO ez ⊢
          subst ez
          clear hzb
          have y0 : w9.cell? ⟨w.heap.size + 1, 0, none⟩ = some vs := hbx.cell 0
          have g0 := hbx.frozen 0
          have yl := hbx.lt
          have HBX := Lib.hid hbx
          clear hbx
          go_simp
          have hset : ∀ v u, OwnS w9 WB.heap.size v (L ++ [⟨kd, z2, z3, z4⟩]) → OwnS (w9.setCell ⟨w.heap.size + 1, 0, none⟩ u) WB.heap.size v (L ++ [⟨kd, z2, z3, z4⟩]) := fun v u h => ⟨h.1, h.2.fx (Fx.set w9 _ 0 _) (fun b e k => by have := k.1; have := HPL.out; omega)⟩
          exact hK undef _ (fun k v _ _ h => h.put uA (fun v h => hset v _ h)) (fun t ht => by cases ht) (HCM.out.put (j := 0) (by rw [hlsz]; decide) uA (by decide) nS rfl (hset _ _ HO.out))
      · intro listed a w10 hr hj
        have hu : ∀ k, k < 33 → up listed k := fun k hk => all_up (by kernel_rfl) hj.lsize hr k hk
        obtain ⟨f, rfl, hcm, hf⟩ := hj.opened [36, 37, 38, 39, 40, 41, 42, 43, 44, 45, 46, 47, 48, 49, 50, 51, 52, 53, 54, 55, 56, 57, 58, 59, 60, 61, 62, 63, 64, 65, 66, 67] (by kernel_rfl)
        replace hcm : CQ WB (w.heap.size + 1) 30 32 (fun v => #[v, .slice none 0 0]) vs (fun w v => OwnS w WB.heap.size v L) (fun w v => OwnS w WB.heap.size v (L ++ [⟨kd, z2, z3, z4⟩])) listed f w10 := hcm
        obtain ⟨v', hO', hB'⟩ := hcm.new (hu 32 (by omega))
        have hF' := hcm.fx
        have HO' := Lib.hid hO'
        have HB' := Lib.hid hB'
        have HF' := Lib.hid hF'
        clear hcm hO' hB' hF' hj hf hu
        rename_i aQ
        simp only [List.foldl_cons, List.foldl_nil, List.setIfInBounds_toArray, List.set_cons_zero, List.set_cons_succ]
        go_wp2_with fail
        go_roundg (n - (i + 1))
        case measure => omega
        case rel => exact ⟨i + 1, v', by omega, rfl, by go_num, by have h := HO'.out; rw [← HST.out] at h; exact h, HB'.out, HF'.out⟩
    obtain rfl : i = n := by omega
    clear hlt
    have HBC : Hid (Below w.heap.size w wr) := HB0.out.trans (hF.out.toBelow (by rw [HSZ.out]; omega) (fun b e => by omega))
    have BX1 : Hid (Box wr w.heap.size #[.slice none 0 0, .slice none 0 0] 27) := BX.out.fx hF.out (by omega)
    have HS1 := Lib.hid (HS.out.fx hF.out (NoP.of BY.out.tag (by decide) (by decide) (by decide)).1)
    have HST1 := Lib.hid hO.out.slT
    have HBL1 : Hid (bl < wr.heap.size) := Nat.lt_of_lt_of_le HBL.out hF.out.size
    obtain ⟨n, hn⟩ : ∃ n, i = n := ⟨_, rfl⟩
    subst hn
    obtain ⟨R0, hR0⟩ : ∃ R0, ls.drop d = R0 := ⟨_, rfl⟩
    have HRL0 : Hid (R0.length = ln - d) := by show _ = _; rw [← hR0, List.length_drop, HLN.out]
    have HPR0 : Hid (∀ z ∈ R0, 0 ≤ z ∧ z ≤ 10000000) := fun z hz => HPO.out z (by rw [← hR0] at hz; exact List.mem_of_mem_drop hz)
    have HSR0 : Hid (SlIT wr (.slice (some ⟨bl, off + d, none⟩) (ln - d) (cap - d)) R0) := by
      have h := HS1.out.rest d (by rw [HLN.out]; exact hdl)
      rw [HLN.out, hR0] at h
      exact h
    rw [hR0] at HP
    clear hR0
    obtain ⟨ST, hST⟩ : ∃ ST, stepsR ls i = ST := ⟨_, rfl⟩
    rw [hST] at HP HST1
    clear hST
    obtain ⟨WC, hWC⟩ : ∃ WC, WC = wr := ⟨_, rfl⟩
    have HPL : Hid (w.heap.size + 1 < WC.heap.size) := by rw [hWC]; exact hBX.out.lt
    have HBY := Lib.hid hBX.out
    rw [← hWC] at HBC BX1 HSR0 HST1 HBL1 HBY ⊢
    clear hO hBX hF hWC HS HBL HCC HSZ HS1 HPO HLN HD
    obtain ⟨n, hn⟩ : ∃ n, n = i := ⟨_, rfl⟩
    rw [← hn] at HP hd1 hn12 ⊢
    clear hn hi
    have hin : ¬ (n : Int) < (n : Int) := by omega
    by_cases hcd : cap = d
    · subst hcd
      obtain rfl : ln = cap := by omega
      have HR00 : R0 = [] := List.length_eq_zero_iff.1 (by have := HRL0.out; omega)
      go_wp2_with fail
      go_loopg [0, 6] 0 (fun g t0 t6 wx => g = 0 ∧ t0 = .slice (some ⟨bl, off, none⟩) 0 0 ∧ t6 = .int .i64 0 ∧ wx = WC)
      case atStart => exact ⟨rfl, by first | rfl | simp, rfl, rfl⟩
      case round =>
        obtain ⟨_, rfl, rfl, hwx⟩ := hrel
        subst hwx
        have hOL := Lib.hid (show OwnL wr wr.heap.size (.slice none 0 0) [] from ⟨[], rfl, OwnC.nil _ _ _ _, fun i hi => by simp at hi⟩)
        have hBL := HBY
        have hFL := Lib.hid (Fx.refl (fun b => b = w.heap.size + 1) wr)
        obtain ⟨L, hL⟩ : ∃ L : List (List Int), L = [] := ⟨_, rfl⟩
        rw [← hL] at hOL
        obtain ⟨va, hva⟩ : ∃ va : Value, va = .slice none 0 0 := ⟨_, rfl⟩
        rw [← hva] at hOL hBL
        clear hva
        have HAL : Hid (aftR n R0 = L) := by
          show _ = _
          rw [HR00, hL]
          cases n <;> rfl
        clear HR00 hL
        cases n with
        | zero =>
          obtain ⟨pS, cS, rfl, _⟩ := HST1.out.1.2.shape
          have HLT1 := Lib.hid hOL.out.slT
          obtain ⟨uL, huL, _⟩ := id HLT1.out.1
          obtain ⟨pL, cL, rfl, _⟩ := huL.shape
          clear huL
          obtain ⟨nS, hnS⟩ : ∃ nS, ST.length = nS := ⟨_, rfl⟩
          obtain ⟨nL, hnL⟩ : ∃ nL, L.length = nL := ⟨_, rfl⟩
          rw [hnS] at HST1 hBL
          rw [hnL] at HLT1 hBL
          clear hnS hnL
          have BXW : Hid (Box wr w.heap.size #[.slice none 0 0, .slice none 0 0] 27) := BX1.out.fx hFL.out (by omega)
          have HSTW := Lib.hid (HST1.out.fx hFL.out (NoP.of HBY.out.tag (by decide) (by decide) (by decide)).2.1)
          have HBW : Hid (Below w.heap.size w wr) := HBC.out.trans (hFL.out.toBelow HBC.out.size (fun b e => by omega))
          have y0 : wr.cell? ⟨w.heap.size + 1, 0, none⟩ = some (.slice pS nS cS) := hBL.out.cell 0
          have y1 : wr.cell? ⟨w.heap.size + 1, 1, none⟩ = some (.slice pL nL cL) := hBL.out.cell 1
          have x0 : wr.cell? ⟨w.heap.size, 0, none⟩ = some (.slice none 0 0) := BXW.out.cell 0
          have x1 : wr.cell? ⟨w.heap.size, 1, none⟩ = some (.slice none 0 0) := BXW.out.cell 1
          have u0 := BXW.out.frozen 0
          have u1 := BXW.out.frozen 1
          have xl := BXW.out.lt
          have yl := hBL.out.lt
          go_wp2_with fail
          refine (show (∀ WE, Box WE w.heap.size #[.slice pS nS cS, .slice pL nL cL] 27 → Fx (fun b => b = w.heap.size) wr WE → bodyPost Tryz.prog _ (RetPr w _) Exit.ret _ WE) → _ from fun H => H _ (by have := (BXW.out.set 0 (.slice pS nS cS)).set 1 (.slice pL nL cL); simpa using this) ((Fx.set wr w.heap.size 0 _).trans (Fx.set _ w.heap.size 1 _))) ?_
          intro WE HE hfE
          have z0 := HE.cell 0
          have z1 := HE.cell 1
          refine bodyPost_ret (v := .agg #[.slice pS nS cS, .slice pL nL cL]) (by simp [results, Tryz.results66, go_sem, z0, z1]) rfl ?_
          have hnp := NoP.of BXW.out.tag (by decide) (by decide) (by decide)
          refine ⟨_, _, rfl, ?_, ?_, HBW.out.trans (hfE.toBelow HBW.out.size (fun b e => by omega))⟩
          · rw [HP.out]; exact HSTW.out.fx hfE hnp.2.1
          · rw [HP.out, HAL.out]; exact HLT1.out.fx hfE hnp.1 hnp.2.2
        | succ n =>
          have hnn : (0 : Int) < ((n + 1 : Nat) : Int) := by omega
          obtain ⟨pS, cS, rfl, _⟩ := HST1.out.1.2.shape
          have HLT1 := Lib.hid hOL.out.slT
          obtain ⟨uL, huL, _⟩ := id HLT1.out.1
          obtain ⟨pL, cL, rfl, _⟩ := huL.shape
          clear huL
          obtain ⟨nS, hnS⟩ : ∃ nS, ST.length = nS := ⟨_, rfl⟩
          obtain ⟨nL, hnL⟩ : ∃ nL, L.length = nL := ⟨_, rfl⟩
          rw [hnS] at HST1 hBL
          rw [hnL] at HLT1 hBL
          clear hnS hnL
          have BXW : Hid (Box wr w.heap.size #[.slice none 0 0, .slice none 0 0] 27) := BX1.out.fx hFL.out (by omega)
          have HSTW := Lib.hid (HST1.out.fx hFL.out (NoP.of HBY.out.tag (by decide) (by decide) (by decide)).2.1)
          have HBW : Hid (Below w.heap.size w wr) := HBC.out.trans (hFL.out.toBelow HBC.out.size (fun b e => by omega))
          have y0 : wr.cell? ⟨w.heap.size + 1, 0, none⟩ = some (.slice pS nS cS) := hBL.out.cell 0
          have y1 : wr.cell? ⟨w.heap.size + 1, 1, none⟩ = some (.slice pL nL cL) := hBL.out.cell 1
          have x0 : wr.cell? ⟨w.heap.size, 0, none⟩ = some (.slice none 0 0) := BXW.out.cell 0
          have x1 : wr.cell? ⟨w.heap.size, 1, none⟩ = some (.slice none 0 0) := BXW.out.cell 1
          have u0 := BXW.out.frozen 0
          have u1 := BXW.out.frozen 1
          have xl := BXW.out.lt
          have yl := hBL.out.lt
          go_wp2_with fail
          refine (show (∀ WE, Box WE w.heap.size #[.slice pS nS cS, .slice pL nL cL] 27 → Fx (fun b => b = w.heap.size) wr WE → bodyPost Tryz.prog _ (RetPr w _) Exit.ret _ WE) → _ from fun H => H _ (by have := (BXW.out.set 0 (.slice pS nS cS)).set 1 (.slice pL nL cL); simpa using this) ((Fx.set wr w.heap.size 0 _).trans (Fx.set _ w.heap.size 1 _))) ?_
          intro WE HE hfE
          have z0 := HE.cell 0
          have z1 := HE.cell 1
          refine bodyPost_ret (v := .agg #[.slice pS nS cS, .slice pL nL cL]) (by simp [results, Tryz.results66, go_sem, z0, z1]) rfl ?_
          have hnp := NoP.of BXW.out.tag (by decide) (by decide) (by decide)
          refine ⟨_, _, rfl, ?_, ?_, HBW.out.trans (hfE.toBelow HBW.out.size (fun b e => by omega))⟩
          · rw [HP.out]; exact HSTW.out.fx hfE hnp.2.1
          · rw [HP.out, HAL.out]; exact HLT1.out.fx hfE hnp.1 hnp.2.2
    go_wp2_with fail
    go_loopg [0, 6] n (fun g t0 t6 wx => ∃ (i : Nat) (va : Value) (L : List (List Int)) (R : List Int) (oo rl cc : Nat), i ≤ n ∧ g = n - i ∧ t0 = .slice (some ⟨bl, oo, none⟩) rl cc ∧ t6 = .int .i64 (i : Int) ∧ Hid (R.length = rl) ∧ Hid (SlIT WC (.slice (some ⟨bl, oo, none⟩) rl cc) R) ∧ Hid (∀ z ∈ R, 0 ≤ z ∧ z ≤ 10000000) ∧ Hid (R.length ≤ 100000) ∧ Hid (aftR n R0 = L ++ aftR (n - i) R) ∧ Hid (L.length ≤ i) ∧ Hid (OwnL wx WC.heap.size va L) ∧ Hid (Box wx (w.heap.size + 1) #[vs, va] 27) ∧ Hid (Fx (fun b => b = w.heap.size + 1) WC wx))
    case atStart =>
      exact ⟨0, .slice none 0 0, [], R0, off + d, ln - d, cap - d, Nat.zero_le _, rfl, rfl, rfl, HRL0.out, HSR0.out, HPR0.out, by have := HRL0.out; show _ ≤ _; omega, by show _ = _; simp, by show _ ≤ _; simp, ⟨[], rfl, OwnC.nil _ _ _ _, fun i hi => by simp at hi⟩, HBY.out, Fx.refl _ _⟩
    case round =>
      obtain ⟨i, va, L, R, oo, rl, cc, hi, rfl, rfl, rfl, HRL', HSR, HPR, HRB, HAF, HLI, hOL, hBL, hFL⟩ := hrel
      clear hin
      by_cases hlt : i < n
      rotate_left
      · obtain rfl : i = n := by omega
        have HAL : Hid (aftR i R0 = L) := by show _ = _; rw [HAF.out, Nat.sub_self]; simp [aftR]
        have hin : ¬ (i : Int) < (i : Int) := by omega
        clear hlt
        obtain ⟨pS, cS, rfl, _⟩ := HST1.out.1.2.shape
        have HLT1 := Lib.hid hOL.out.slT
        obtain ⟨uL, huL, _⟩ := id HLT1.out.1
        obtain ⟨pL, cL, rfl, _⟩ := huL.shape
        clear huL
        obtain ⟨nS, hnS⟩ : ∃ nS, ST.length = nS := ⟨_, rfl⟩
        obtain ⟨nL, hnL⟩ : ∃ nL, L.length = nL := ⟨_, rfl⟩
        rw [hnS] at HST1 hBL
        rw [hnL] at HLT1 hBL
        clear hnS hnL
        have BXW : Hid (Box wr w.heap.size #[.slice none 0 0, .slice none 0 0] 27) := BX1.out.fx hFL.out (by omega)
        have HSTW := Lib.hid (HST1.out.fx hFL.out (NoP.of HBY.out.tag (by decide) (by decide) (by decide)).2.1)
        have HBW : Hid (Below w.heap.size w wr) := HBC.out.trans (hFL.out.toBelow HBC.out.size (fun b e => by omega))
        have y0 : wr.cell? ⟨w.heap.size + 1, 0, none⟩ = some (.slice pS nS cS) := hBL.out.cell 0
        have y1 : wr.cell? ⟨w.heap.size + 1, 1, none⟩ = some (.slice pL nL cL) := hBL.out.cell 1
        have x0 : wr.cell? ⟨w.heap.size, 0, none⟩ = some (.slice none 0 0) := BXW.out.cell 0
        have x1 : wr.cell? ⟨w.heap.size, 1, none⟩ = some (.slice none 0 0) := BXW.out.cell 1
        have u0 := BXW.out.frozen 0
        have u1 := BXW.out.frozen 1
        have xl := BXW.out.lt
        have yl := hBL.out.lt
        go_wp2_with fail
        refine (show (∀ WE, Box WE w.heap.size #[.slice pS nS cS, .slice pL nL cL] 27 → Fx (fun b => b = w.heap.size) wr WE → bodyPost Tryz.prog _ (RetPr w _) Exit.ret _ WE) → _ from fun H => H _ (by have := (BXW.out.set 0 (.slice pS nS cS)).set 1 (.slice pL nL cL); simpa using this) ((Fx.set wr w.heap.size 0 _).trans (Fx.set _ w.heap.size 1 _))) ?_
        intro WE HE hfE
        have z0 := HE.cell 0
        have z1 := HE.cell 1
        refine bodyPost_ret (v := .agg #[.slice pS nS cS, .slice pL nL cL]) (by simp [results, Tryz.results66, go_sem, z0, z1]) rfl ?_
        have hnp := NoP.of BXW.out.tag (by decide) (by decide) (by decide)
        refine ⟨_, _, rfl, ?_, ?_, HBW.out.trans (hfE.toBelow HBW.out.size (fun b e => by omega))⟩
        · rw [HP.out]; exact HSTW.out.fx hfE hnp.2.1
        · rw [HP.out, HAL.out]; exact HLT1.out.fx hfE hnp.1 hnp.2.2
      have HNI : Hid (n - i = n - (i + 1) + 1) := by show _ = _; omega
      have hiz : (i : Int) < (n : Int) := by omega
      cases R with
      | nil =>
        have hrl0 : rl = 0 := HRL'.out.symm
        subst hrl0
        have HAL : Hid (aftR n R0 = L) := by show _ = _; rw [HAF.out, HNI.out]; simp [aftR]
        clear hlt
        obtain ⟨pS, cS, rfl, _⟩ := HST1.out.1.2.shape
        have HLT1 := Lib.hid hOL.out.slT
        obtain ⟨uL, huL, _⟩ := id HLT1.out.1
        obtain ⟨pL, cL, rfl, _⟩ := huL.shape
        clear huL
        obtain ⟨nS, hnS⟩ : ∃ nS, ST.length = nS := ⟨_, rfl⟩
        obtain ⟨nL, hnL⟩ : ∃ nL, L.length = nL := ⟨_, rfl⟩
        rw [hnS] at HST1 hBL
        rw [hnL] at HLT1 hBL
        clear hnS hnL
        have BXW : Hid (Box wr w.heap.size #[.slice none 0 0, .slice none 0 0] 27) := BX1.out.fx hFL.out (by omega)
        have HSTW := Lib.hid (HST1.out.fx hFL.out (NoP.of HBY.out.tag (by decide) (by decide) (by decide)).2.1)
        have HBW : Hid (Below w.heap.size w wr) := HBC.out.trans (hFL.out.toBelow HBC.out.size (fun b e => by omega))
        have y0 : wr.cell? ⟨w.heap.size + 1, 0, none⟩ = some (.slice pS nS cS) := hBL.out.cell 0
        have y1 : wr.cell? ⟨w.heap.size + 1, 1, none⟩ = some (.slice pL nL cL) := hBL.out.cell 1
        have x0 : wr.cell? ⟨w.heap.size, 0, none⟩ = some (.slice none 0 0) := BXW.out.cell 0
        have x1 : wr.cell? ⟨w.heap.size, 1, none⟩ = some (.slice none 0 0) := BXW.out.cell 1
        have u0 := BXW.out.frozen 0
        have u1 := BXW.out.frozen 1
        have xl := BXW.out.lt
        have yl := hBL.out.lt
        go_wp2_with fail
        refine (show (∀ WE, Box WE w.heap.size #[.slice pS nS cS, .slice pL nL cL] 27 → Fx (fun b => b = w.heap.size) wr WE → bodyPost Tryz.prog _ (RetPr w _) Exit.ret _ WE) → _ from fun H => H _ (by have := (BXW.out.set 0 (.slice pS nS cS)).set 1 (.slice pL nL cL); simpa using this) ((Fx.set wr w.heap.size 0 _).trans (Fx.set _ w.heap.size 1 _))) ?_
        intro WE HE hfE
        have z0 := HE.cell 0
        have z1 := HE.cell 1
        refine bodyPost_ret (v := .agg #[.slice pS nS cS, .slice pL nL cL]) (by simp [results, Tryz.results66, go_sem, z0, z1]) rfl ?_
        have hnp := NoP.of BXW.out.tag (by decide) (by decide) (by decide)
        refine ⟨_, _, rfl, ?_, ?_, HBW.out.trans (hfE.toBelow HBW.out.size (fun b e => by omega))⟩
        · rw [HP.out]; exact HSTW.out.fx hfE hnp.2.1
        · rw [HP.out, HAL.out]; exact HLT1.out.fx hfE hnp.1 hnp.2.2
      | cons x xs' =>
      have hrl : xs'.length + 1 = rl := HRL'.out
      have HRL : Hid (0 < rl) := by show _ < _; omega
      obtain ⟨q, hq⟩ : ∃ q : Nat, x = (q : Int) := ⟨x.toNat, by have := HPR.out x (by simp); omega⟩
      subst hq
      obtain ⟨b', o', c', e', hrc, hcm, hbl', hc'⟩ := HSR.out.1.2.at_ (by simp)
      have hcell : WC.cell? ⟨bl, oo, none⟩ = some (.int .i64 (q : Int)) := by
        injection e' with e1 e2 e3
        injection e1 with e1
        injection e1 with e1 e2 _
        have := hc' 0 (by simp) 0 (by omega)
        rw [← e1, ← e2] at this
        simpa using this
      obtain rfl : cc = c' := by injection e' with e1 e2 e3
      have HC0 := Lib.hid hcell
      have HBL := HBL1
      have hrc2 : rl ≤ cc := by have : (((q : Int)) :: xs').length = xs'.length + 1 := rfl; omega
      clear e' hc' hbl' hrc
      have kx : wr.cell? ⟨bl, oo, none⟩ = some (.int .i64 (q : Int)) := hFL.out.cell HC0.out HNE.out
      have klt : bl < wr.heap.size := Nat.lt_of_lt_of_le HBL.out hFL.out.size
      have r0 : (0 : Int) < (rl : Int) := by omega
      have HIF : aftR (n - (i + 1) + 1) ((q : Int) :: xs') = if (q : Int) < (xs'.length : Int) + 1 then xs'.take q :: aftR (n - (i + 1)) (xs'.drop q) else [] := rfl
      by_cases hqr : q < rl
      rotate_left
      · have HAL : Hid (aftR n R0 = L) := by
          show _ = _
          rw [HAF.out, HNI.out, HIF, if_neg (by omega), List.append_nil]
        have p1 : ¬ (q : Int) < (rl : Int) := by omega
        clear hlt hqr HIF
        obtain ⟨pS, cS, rfl, _⟩ := HST1.out.1.2.shape
        have HLT1 := Lib.hid hOL.out.slT
        obtain ⟨uL, huL, _⟩ := id HLT1.out.1
        obtain ⟨pL, cL, rfl, _⟩ := huL.shape
        clear huL
        obtain ⟨nS, hnS⟩ : ∃ nS, ST.length = nS := ⟨_, rfl⟩
        obtain ⟨nL, hnL⟩ : ∃ nL, L.length = nL := ⟨_, rfl⟩
        rw [hnS] at HST1 hBL
        rw [hnL] at HLT1 hBL
        clear hnS hnL
        have BXW : Hid (Box wr w.heap.size #[.slice none 0 0, .slice none 0 0] 27) := BX1.out.fx hFL.out (by omega)
        have HSTW := Lib.hid (HST1.out.fx hFL.out (NoP.of HBY.out.tag (by decide) (by decide) (by decide)).2.1)
        have HBW : Hid (Below w.heap.size w wr) := HBC.out.trans (hFL.out.toBelow HBC.out.size (fun b e => by omega))
        have y0 : wr.cell? ⟨w.heap.size + 1, 0, none⟩ = some (.slice pS nS cS) := hBL.out.cell 0
        have y1 : wr.cell? ⟨w.heap.size + 1, 1, none⟩ = some (.slice pL nL cL) := hBL.out.cell 1
        have x0 : wr.cell? ⟨w.heap.size, 0, none⟩ = some (.slice none 0 0) := BXW.out.cell 0
        have x1 : wr.cell? ⟨w.heap.size, 1, none⟩ = some (.slice none 0 0) := BXW.out.cell 1
        have u0 := BXW.out.frozen 0
        have u1 := BXW.out.frozen 1
        have xl := BXW.out.lt
        have yl := hBL.out.lt
        go_wp2_with fail
        refine (show (∀ WE, Box WE w.heap.size #[.slice pS nS cS, .slice pL nL cL] 27 → Fx (fun b => b = w.heap.size) wr WE → bodyPost Tryz.prog _ (RetPr w _) Exit.ret _ WE) → _ from fun H => H _ (by have := (BXW.out.set 0 (.slice pS nS cS)).set 1 (.slice pL nL cL); simpa using this) ((Fx.set wr w.heap.size 0 _).trans (Fx.set _ w.heap.size 1 _))) ?_
        intro WE HE hfE
        have z0 := HE.cell 0
        have z1 := HE.cell 1
        refine bodyPost_ret (v := .agg #[.slice pS nS cS, .slice pL nL cL]) (by simp [results, Tryz.results66, go_sem, z0, z1]) rfl ?_
        have hnp := NoP.of BXW.out.tag (by decide) (by decide) (by decide)
        refine ⟨_, _, rfl, ?_, ?_, HBW.out.trans (hfE.toBelow HBW.out.size (fun b e => by omega))⟩
        · rw [HP.out]; exact HSTW.out.fx hfE hnp.2.1
        · rw [HP.out, HAL.out]; exact HLT1.out.fx hfE hnp.1 hnp.2.2
      have p1 : (q : Int) < (rl : Int) := by omega
      have HAFN : Hid (aftR n R0 = (L ++ [xs'.take q]) ++ aftR (n - (i + 1)) (xs'.drop q)) := by
        show _ = _
        rw [HAF.out, HNI.out, HIF, if_pos (by omega), List.append_assoc]; rfl
      clear HIF
      obtain ⟨A, hA⟩ : ∃ A, xs'.take q = A := ⟨_, rfl⟩
      obtain ⟨q1, hq1⟩ : ∃ q1, q + 1 = q1 := ⟨_, rfl⟩
      have HQ1 : Hid ((1 : Int) + (q : Int) = (q1 : Int)) := by show _ = _; omega
      have HAL : Hid (A.length ≤ 100000) := by show _ ≤ _; rw [← hA, List.length_take]; have h := HRB.out; have : (((q : Int)) :: xs').length = xs'.length + 1 := rfl; omega
      have HLL : Hid (L.length ≤ 1000000) := by show _ ≤ _; have := HLI.out; omega
      have HS0 := Lib.hid HSR.out.rest0
      have HAFN2 := HAFN
      rw [hA] at HAFN
      by_cases hc1 : cc = 1
      · subst hc1
        obtain rfl : rl = 1 := by omega
        obtain rfl : q = 0 := by omega
        obtain rfl : q1 = 1 := by omega
        have hx0 : xs' = [] := List.length_eq_zero_iff.1 (by omega)
        subst hx0
        have hA0 : A = [] := by rw [← hA]; rfl
        have HAF0 : Hid (aftR n R0 = (L ++ [A]) ++ aftR (n - (i + 1)) []) := HAFN.out
        have HSA : Hid (SlIT WC (.slice (some ⟨bl, oo, none⟩) 0 0) A) := by rw [hA0]; exact HS0.out
        clear HC0 kx r0 p1 HQ1
        have HC0 : Hid (WC.cell? ⟨bl, oo, none⟩ = some (.int .i64 0)) := hcell
        have kx : wr.cell? ⟨bl, oo, none⟩ = some (.int .i64 0) := hFL.out.cell HC0.out HNE.out
        clear hcell
        clear hlt hqr hA hA0 HAFN2 hq1
        go_upto_region 14 with fail
        refine wp_region_gj (J := GJ _ (SQ WC.heap.size 11 (fun w v => OwnL w WC.heap.size v (L ++ [A])) (fun κ => match κ with | 0 => .eq (.pointer (some ⟨w.heap.size + 1, 1, none⟩)) | 1 => .eq (va) | 2 => .eq (.slice none 0 0) | 3 => .eq (.slice (some ⟨bl, oo, none⟩) 1 1) | 4 => .eq (.slice (some ⟨bl, oo, none⟩) 1 1) | 5 => .eq (.pointer (some ⟨bl, oo, none⟩)) | 6 => .eq (.int .i64 0) | 7 => .eq (.int .i64 1) | 8 => .eq (.slice (some ⟨bl, oo, none⟩) 0 0) | 9 => .inn (A) | 10 => .two (A) | 11 => .own | 12 => .eq (.pointer (some ⟨w.heap.size + 1, 1, none⟩)) | _ => .any)) (CQ WC (w.heap.size + 1) 11 13 (fun v => #[vs, v]) va (fun w v => OwnL w WC.heap.size v L) (fun w v => OwnL w WC.heap.size v (L ++ [A]))) _) (by kernel_rfl) ?_ ?_ (GJ.start (CQ.start (fun _ _ _ h hb => h.after hb) hFL.out hOL.out hBL.out))
        · intro listed a w9 i hr hj
          obtain ⟨hi12, hun, _, _, _⟩ := ready_mem hr
          have h12 : i ∈ List.range 14 := List.mem_range.2 hi12
          simp only [List.range, List.range.loop, List.mem_cons, List.not_mem_nil, or_false] at h12
          obtain ⟨f, rfl, hcm, hf⟩ := hj.opened [91, 92, 93, 94, 95, 96, 97, 98, 99, 100, 101, 102, 103] (by kernel_rfl)
          replace hcm : CQ WC (w.heap.size + 1) 11 13 (fun v => #[vs, v]) va (fun w v => OwnL w WC.heap.size v L) (fun w v => OwnL w WC.heap.size v (L ++ [A])) listed f w9 := hcm
          have hlsz : listed.size = 14 := hj.lsize
          rcases h12 with rfl | rfl | rfl | rfl | rfl | rfl | rfl | rfl | rfl | rfl | rfl | rfl | rfl | rfl
          · have nS : ¬ up listed 13 := fun h => not_up hun (hj.closed 13 0 h (by kernel_rfl))
            have klt := (hcm.box nS).lt
            have HCM := Lib.hid hcm
            clear hcm
            refine GJ.op hj (by kernel_rfl) hr rfl [91, 92, 93, 94, 95, 96, 97, 98, 99, 100, 101, 102, 103] (by kernel_rfl) (fun K hK => ?_)
            simp only [Act.put, List.foldl_cons, List.foldl_nil, List.setIfInBounds_toArray, List.set_cons_zero, List.set_cons_succ] at hK ⊢
            clear hj hf
            go_simp
            exact hK _ _ (fun k v _ _ h => h.keep (fun _ _ _ h hb => h.after hb) (Below.refl _ _)) (fun t ht => SQ.of (.eq (.pointer (some ⟨w.heap.size + 1, 1, none⟩))) rfl rfl) (HCM.out.keep (fun _ _ _ h hb => h.after hb) (fun _ _ _ h hb => h.after hb) (by decide) (by decide) (Below.refl _ _))
          · have e1 : f 91 = .pointer (some ⟨w.heap.size + 1, 1, none⟩) := hf 0 _ _ rfl rfl (up_dep hr (by kernel_rfl))
            have nS : ¬ up listed 13 := fun h => not_up hun (hj.closed 13 1 h (by kernel_rfl))
            have kx : w9.cell? ⟨w.heap.size + 1, 1, none⟩ = some (va) := (hcm.box nS).cell 1
            have klt := (hcm.box nS).lt
            have HCM := Lib.hid hcm
            clear hcm
            refine GJ.op hj (by kernel_rfl) hr rfl [91, 92, 93, 94, 95, 96, 97, 98, 99, 100, 101, 102, 103] (by kernel_rfl) (fun K hK => ?_)
            simp only [Act.put, List.foldl_cons, List.foldl_nil, List.setIfInBounds_toArray, List.set_cons_zero, List.set_cons_succ] at hK ⊢
            clear hj hf
            rw [e1] at hK ⊢
            clear e1
            go_simp
            exact hK _ _ (fun k v _ _ h => h.keep (fun _ _ _ h hb => h.after hb) (Below.refl _ _)) (fun t ht => SQ.of (.eq (va)) rfl rfl) (HCM.out.keep (fun _ _ _ h hb => h.after hb) (fun _ _ _ h hb => h.after hb) (by decide) (by decide) (Below.refl _ _))
          · have HCM := Lib.hid hcm
            clear hcm
            refine GJ.op hj (by kernel_rfl) hr rfl [91, 92, 93, 94, 95, 96, 97, 98, 99, 100, 101, 102, 103] (by kernel_rfl) (fun K hK => ?_)
            simp only [Act.put, List.foldl_cons, List.foldl_nil, List.setIfInBounds_toArray, List.set_cons_zero, List.set_cons_succ] at hK ⊢
            clear hj hf
            go_simp
            exact hK _ _ (fun k v _ _ h => h.keep (fun _ _ _ h hb => h.after hb) (Below.refl _ _)) (fun t ht => SQ.of (.eq (.slice none 0 0)) rfl rfl) (HCM.out.keep (fun _ _ _ h hb => h.after hb) (fun _ _ _ h hb => h.after hb) (by decide) (by decide) (Below.refl _ _))
          · have HCM := Lib.hid hcm
            clear hcm
            refine GJ.op hj (by kernel_rfl) hr rfl [91, 92, 93, 94, 95, 96, 97, 98, 99, 100, 101, 102, 103] (by kernel_rfl) (fun K hK => ?_)
            simp only [Act.put, List.foldl_cons, List.foldl_nil, List.setIfInBounds_toArray, List.set_cons_zero, List.set_cons_succ] at hK ⊢
            clear hj hf
            go_simp
            exact hK _ _ (fun k v _ _ h => h.keep (fun _ _ _ h hb => h.after hb) (Below.refl _ _)) (fun t ht => SQ.of (.eq (.slice (some ⟨bl, oo, none⟩) 1 1)) rfl rfl) (HCM.out.keep (fun _ _ _ h hb => h.after hb) (fun _ _ _ h hb => h.after hb) (by decide) (by decide) (Below.refl _ _))
          · have HCM := Lib.hid hcm
            clear hcm
            refine GJ.op hj (by kernel_rfl) hr rfl [91, 92, 93, 94, 95, 96, 97, 98, 99, 100, 101, 102, 103] (by kernel_rfl) (fun K hK => ?_)
            simp only [Act.put, List.foldl_cons, List.foldl_nil, List.setIfInBounds_toArray, List.set_cons_zero, List.set_cons_succ] at hK ⊢
            clear hj hf
            go_simp
            exact hK _ _ (fun k v _ _ h => h.keep (fun _ _ _ h hb => h.after hb) (Below.refl _ _)) (fun t ht => SQ.of (.eq (.slice (some ⟨bl, oo, none⟩) 1 1)) rfl rfl) (HCM.out.keep (fun _ _ _ h hb => h.after hb) (fun _ _ _ h hb => h.after hb) (by decide) (by decide) (Below.refl _ _))
          · have e1 : f 95 = .slice (some ⟨bl, oo, none⟩) 1 1 := hf 4 _ _ rfl rfl (up_dep hr (by kernel_rfl))
            have HCM := Lib.hid hcm
            clear hcm
            refine GJ.op hj (by kernel_rfl) hr rfl [91, 92, 93, 94, 95, 96, 97, 98, 99, 100, 101, 102, 103] (by kernel_rfl) (fun K hK => ?_)
            simp only [Act.put, List.foldl_cons, List.foldl_nil, List.setIfInBounds_toArray, List.set_cons_zero, List.set_cons_succ] at hK ⊢
            clear hj hf
            rw [e1] at hK ⊢
            clear e1
            go_simp
            exact hK _ _ (fun k v _ _ h => h.keep (fun _ _ _ h hb => h.after hb) (Below.refl _ _)) (fun t ht => SQ.of (.eq (.pointer (some ⟨bl, oo, none⟩))) rfl rfl) (HCM.out.keep (fun _ _ _ h hb => h.after hb) (fun _ _ _ h hb => h.after hb) (by decide) (by decide) (Below.refl _ _))
          · have e1 : f 96 = .pointer (some ⟨bl, oo, none⟩) := hf 5 _ _ rfl rfl (up_dep hr (by kernel_rfl))
            have kx : w9.cell? ⟨bl, oo, none⟩ = some (.int .i64 0) := hcm.fx.cell HC0.out HNE.out
            have klt := Nat.lt_of_lt_of_le HBL.out hcm.fx.size
            have HCM := Lib.hid hcm
            clear hcm
            refine GJ.op hj (by kernel_rfl) hr rfl [91, 92, 93, 94, 95, 96, 97, 98, 99, 100, 101, 102, 103] (by kernel_rfl) (fun K hK => ?_)
            simp only [Act.put, List.foldl_cons, List.foldl_nil, List.setIfInBounds_toArray, List.set_cons_zero, List.set_cons_succ] at hK ⊢
            clear hj hf
            rw [e1] at hK ⊢
            clear e1
            go_simp
            exact hK _ _ (fun k v _ _ h => h.keep (fun _ _ _ h hb => h.after hb) (Below.refl _ _)) (fun t ht => SQ.of (.eq (.int .i64 0)) rfl rfl) (HCM.out.keep (fun _ _ _ h hb => h.after hb) (fun _ _ _ h hb => h.after hb) (by decide) (by decide) (Below.refl _ _))
          · have e1 : f 97 = .int .i64 0 := hf 6 _ _ rfl rfl (up_dep hr (by kernel_rfl))
            have HCM := Lib.hid hcm
            clear hcm
            refine GJ.op hj (by kernel_rfl) hr rfl [91, 92, 93, 94, 95, 96, 97, 98, 99, 100, 101, 102, 103] (by kernel_rfl) (fun K hK => ?_)
            simp only [Act.put, List.foldl_cons, List.foldl_nil, List.setIfInBounds_toArray, List.set_cons_zero, List.set_cons_succ] at hK ⊢
            clear hj hf
            rw [e1] at hK ⊢
            clear e1
            go_simp
            exact hK _ _ (fun k v _ _ h => h.keep (fun _ _ _ h hb => h.after hb) (Below.refl _ _)) (fun t ht => SQ.of (.eq (.int .i64 1)) rfl rfl) (HCM.out.keep (fun _ _ _ h hb => h.after hb) (fun _ _ _ h hb => h.after hb) (by decide) (by decide) (Below.refl _ _))
          · have e1 : f 94 = .slice (some ⟨bl, oo, none⟩) 1 1 := hf 3 _ _ rfl rfl (up_dep hr (by kernel_rfl))
            have e2 : f 98 = .int .i64 1 := hf 7 _ _ rfl rfl (up_dep hr (by kernel_rfl))
            have HCM := Lib.hid hcm
            clear hcm
            refine GJ.op hj (by kernel_rfl) hr rfl [91, 92, 93, 94, 95, 96, 97, 98, 99, 100, 101, 102, 103] (by kernel_rfl) (fun K hK => ?_)
            simp only [Act.put, List.foldl_cons, List.foldl_nil, List.setIfInBounds_toArray, List.set_cons_zero, List.set_cons_succ] at hK ⊢
            clear hj hf
            rw [e1, e2] at hK ⊢
            clear e1 e2
            go_simp
            exact hK _ _ (fun k v _ _ h => h.keep (fun _ _ _ h hb => h.after hb) (Below.refl _ _)) (fun t ht => SQ.of (.eq (.slice (some ⟨bl, oo, none⟩) 0 0)) rfl rfl) (HCM.out.keep (fun _ _ _ h hb => h.after hb) (fun _ _ _ h hb => h.after hb) (by decide) (by decide) (Below.refl _ _))
          · have e1 : f 93 = .slice none 0 0 := hf 2 _ _ rfl rfl (up_dep hr (by kernel_rfl))
            have e2 : f 99 = .slice (some ⟨bl, oo, none⟩) 0 0 := hf 8 _ _ rfl rfl (up_dep hr (by kernel_rfl))
            have HCM := Lib.hid hcm
            clear hcm
            refine GJ.op hj (by kernel_rfl) hr rfl [91, 92, 93, 94, 95, 96, 97, 98, 99, 100, 101, 102, 103] (by kernel_rfl) (fun K hK => ?_)
            simp only [Act.put, List.foldl_cons, List.foldl_nil, List.setIfInBounds_toArray, List.set_cons_zero, List.set_cons_succ] at hK ⊢
            clear hj hf
            rw [e1, e2] at hK ⊢
            clear e1 e2
            have hbase := HCM.out.fx.size
            refine step_appI ?q3 (.tmp 93) (.tmp 99) ?q4 w9.heap.size _ _ [] A ?q1 (OwnI.nil _ _) ?q2 (HSA.out.fx HCM.out.fx (NoP.of HBY.out.tag (by decide) (by decide) (by decide)).1).1 (by have := HAL.out; simp; omega) (Nat.le_refl _) ?_
            case q1 => rfl
            case q2 => rfl
            case q3 => rfl
            case q4 => rfl
            intro v11 w11 hown11 hb11
            exact hK _ _ (fun k v _ _ h => h.keep (fun _ _ _ h hb => h.after hb) hb11) (fun t ht => SQ.of (.inn A) rfl (fun _ => (by simpa using hown11.le hbase))) (HCM.out.keep (fun _ _ _ h hb => h.after hb) (fun _ _ _ h hb => h.after hb) (by decide) (by decide) (hb11))
          · have s1 : KQ.holds WC.heap.size 11 (fun w v => OwnL w WC.heap.size v (L ++ [A])) listed 9 (.inn (A)) (f 100) w9 := hf 9 _ _ rfl rfl (up_dep hr (by kernel_rfl))
            have NA : ¬ up listed 11 := fun h => not_up hun (hj.closed 11 10 h (by kernel_rfl))
            have HCM := Lib.hid hcm
            clear hcm
            refine GJ.op hj (by kernel_rfl) hr rfl [91, 92, 93, 94, 95, 96, 97, 98, 99, 100, 101, 102, 103] (by kernel_rfl) (fun K hK => ?_)
            simp only [Act.put, List.foldl_cons, List.foldl_nil, List.setIfInBounds_toArray, List.set_cons_zero, List.set_cons_succ] at hK ⊢
            clear hj hf
            obtain ⟨zb, hzb⟩ : ∃ z, f 100 = z := ⟨_, rfl⟩
            rw [hzb] at hK s1 ⊢
            clear hzb
            obtain ⟨pz, cz, ez, _⟩ := (s1 NA).shape
            have HS1 := Lib.hid (s1 NA)
            obtain ⟨lz, hlz⟩ : ∃ lz, A.length = lz := ⟨_, rfl⟩
            rw [hlz] at ez
            clear s1 hlz
            subst ez
            go_simp
            exact hK _ _ (fun k v _ _ h => h.keep (fun _ _ _ h hb => h.after hb) (held_alloc (Below.refl _ _))) (fun t ht => SQ.of (.two A) rfl (fun _ => ⟨_, _, rfl, Box.new _ _ _, HS1.out.after (held_alloc (Below.refl _ _))⟩)) (HCM.out.keep (fun _ _ _ h hb => h.after hb) (fun _ _ _ h hb => h.after hb) (by decide) (by decide) (held_alloc (Below.refl _ _)))
          · have e1 : f 92 = va := hf 1 _ _ rfl rfl (up_dep hr (by kernel_rfl))
            have s2 : KQ.holds WC.heap.size 11 (fun w v => OwnL w WC.heap.size v (L ++ [A])) listed 10 (.two (A)) (f 101) w9 := hf 10 _ _ rfl rfl (up_dep hr (by kernel_rfl))
            have nA := not_up hun
            have nS : ¬ up listed 13 := fun h => nA (hj.closed 13 11 h (by kernel_rfl))
            obtain ⟨bx, u, e2, hbx, hou⟩ := s2 nA
            obtain ⟨us, g0, g1, g2⟩ := hcm.own nA
            have HG2 := Lib.hid g2
            clear g2
            have HCM := Lib.hid hcm
            clear hcm
            refine GJ.op hj (by kernel_rfl) hr rfl [91, 92, 93, 94, 95, 96, 97, 98, 99, 100, 101, 102, 103] (by kernel_rfl) (fun K hK => ?_)
            simp only [Act.put, List.foldl_cons, List.foldl_nil, List.setIfInBounds_toArray, List.set_cons_zero, List.set_cons_succ] at hK ⊢
            clear hj hf
            rw [e1] at hK ⊢
            clear e1
            rw [e2] at hK ⊢
            clear e2 s2
            have hbase := HCM.out.fx.size
            refine step_appC ?q3 (.tmp 92) (.tmp 101) 25 ?q4 WC.heap.size 54 1 24 _ Tryz.underlying25 infoLs rfl (by decide) (by decide) va (us.map fun u => [u]) [u] ?q1 g1 rfl ?q5 ⟨bx, 0, none⟩ 1 ?q2 hbx.news (by rw [List.length_map, g0]; exact HLL.out) hbase ?_
            case q1 => rfl
            case q2 => rfl
            case q3 => rfl
            case q4 => rfl
            case q5 => (obtain ⟨pz, cz, ez, _⟩ := hou.shape; subst ez; simp [Value.oneCell'])
            intro v11 w11 hown11 hf11
            have hnt : NoT (fun b => some b = va.ownBlock) w9 3 := fun b e k => by cases (g1.lt b e).2.one k
            exact hK _ _ (fun k v hne _ h => h.app hne (by rw [hlsz]; decide)) (fun t ht => SQ.of .own rfl (fun _ => OwnL.push g0 hown11 (fun i hi => (HG2.out i hi).fx hf11 hnt) (hou.slT.fx hf11 hnt))) (HCM.out.app (by decide) (by rw [hlsz]; decide) HPL.out nS (fun b e => (g1.lt b e).1) hf11)
          · have nS : ¬ up listed 13 := fun h => not_up hun (hj.closed 13 12 h (by kernel_rfl))
            have klt := (hcm.box nS).lt
            have HCM := Lib.hid hcm
            clear hcm
            refine GJ.op hj (by kernel_rfl) hr rfl [91, 92, 93, 94, 95, 96, 97, 98, 99, 100, 101, 102, 103] (by kernel_rfl) (fun K hK => ?_)
            simp only [Act.put, List.foldl_cons, List.foldl_nil, List.setIfInBounds_toArray, List.set_cons_zero, List.set_cons_succ] at hK ⊢
            clear hj hf
            go_simp
            exact hK _ _ (fun k v _ _ h => h.keep (fun _ _ _ h hb => h.after hb) (Below.refl _ _)) (fun t ht => SQ.of (.eq (.pointer (some ⟨w.heap.size + 1, 1, none⟩))) rfl rfl) (HCM.out.keep (fun _ _ _ h hb => h.after hb) (fun _ _ _ h hb => h.after hb) (by decide) (by decide) (Below.refl _ _))
          · have e1 : f 103 = .pointer (some ⟨w.heap.size + 1, 1, none⟩) := hf 12 _ _ rfl rfl (up_dep hr (by kernel_rfl))
            have s2 : KQ.holds WC.heap.size 11 (fun w v => OwnL w WC.heap.size v (L ++ [A])) listed 11 (.own) (f 102) w9 := hf 11 _ _ rfl rfl (up_dep hr (by kernel_rfl))
            have nS := not_up hun
            have uA : up listed 11 := up_dep hr (by kernel_rfl)
            have hbx := hcm.box nS
            have HCM := Lib.hid hcm
            clear hcm
            have HO := Lib.hid (s2 rfl)
            obtain ⟨usz, gz, gz1, _⟩ := HO.out
            obtain ⟨pz, cz, ez, _⟩ := gz1.shape
            obtain ⟨lz, hlz⟩ : ∃ lz, (usz.map fun u => [u]).length = lz := ⟨_, rfl⟩
            rw [hlz] at ez
            clear s2 hlz gz gz1
            refine GJ.op hj (by kernel_rfl) hr rfl [91, 92, 93, 94, 95, 96, 97, 98, 99, 100, 101, 102, 103] (by kernel_rfl) (fun K hK => ?_)
            simp only [Act.put, List.foldl_cons, List.foldl_nil, List.setIfInBounds_toArray, List.set_cons_zero, List.set_cons_succ] at hK ⊢
            clear hj hf
            rw [e1] at hK ⊢
            clear e1
            obtain ⟨zb, hzb⟩ : ∃ z, f 102 = z := ⟨_, rfl⟩
            rw [hzb] at hK HO ez ⊢
            subst ez
            clear hzb
            have y0 : w9.cell? ⟨w.heap.size + 1, 1, none⟩ = some va := hbx.cell 1
            have g0 := hbx.frozen 1
            have yl := hbx.lt
            have HBX := Lib.hid hbx
            clear hbx
            go_simp
            have hset : ∀ v u, OwnL w9 WC.heap.size v (L ++ [A]) → OwnL (w9.setCell ⟨w.heap.size + 1, 1, none⟩ u) WC.heap.size v (L ++ [A]) := fun v u h => h.fx (Fx.set w9 _ 1 _) (fun b e k => by have := k.1; have := HPL.out; omega) (fun b e k => by subst e; cases k.one HBX.out.tag)
            exact hK undef _ (fun k v _ _ h => h.put uA (fun v h => hset v _ h)) (fun t ht => by cases ht) (HCM.out.put (j := 1) (by rw [hlsz]; decide) uA (by decide) nS rfl (hset _ _ HO.out))
        · intro listed a w10 hr hj
          have hu : ∀ k, k < 14 → up listed k := fun k hk => all_up (by kernel_rfl) hj.lsize hr k hk
          obtain ⟨f, rfl, hcm, hf⟩ := hj.opened [91, 92, 93, 94, 95, 96, 97, 98, 99, 100, 101, 102, 103] (by kernel_rfl)
          replace hcm : CQ WC (w.heap.size + 1) 11 13 (fun v => #[vs, v]) va (fun w v => OwnL w WC.heap.size v L) (fun w v => OwnL w WC.heap.size v (L ++ [A])) listed f w10 := hcm
          obtain ⟨v', hO', hB'⟩ := hcm.new (hu 13 (by omega))
          have hF' := hcm.fx
          have HO' := Lib.hid hO'
          have HB' := Lib.hid hB'
          have HF' := Lib.hid hF'
          clear hcm hO' hB' hF' hj hf hu
          simp only [List.foldl_cons, List.foldl_nil, List.setIfInBounds_toArray, List.set_cons_zero, List.set_cons_succ]
          have kx : w10.cell? ⟨bl, oo, none⟩ = some (.int .i64 0) := HF'.out.cell HC0.out HNE.out
          have klt := Nat.lt_of_lt_of_le HBL.out HF'.out.size
          go_wp2_with fail
          go_roundg (n - (i + 1))
          case measure => omega
          case rel => exact ⟨i + 1, v', L ++ [A], [], oo, 0, 0, by omega, rfl, rfl, by go_num, rfl, HS0.out, (fun z hz => by simp at hz), by show _ ≤ _; simp, HAF0.out, by have := HLI.out; show _ ≤ _; simp; omega, HO'.out, HB'.out, HF'.out⟩
      have HC1 : Hid (¬ (cc = 1)) := hc1
      have HSA : Hid (SlIT WC (.slice (some ⟨bl, oo + 1, none⟩) q (cc - 1)) A) := by
        have h := HSR.out.rest 1 (by simp)
        refine ⟨?_, fun a n c e => h.2 a (rl - 1) c (by injection e with e1 e2 e3; rw [← e1, ← e3, show (((q : Int)) :: xs').length = rl from HRL'.out])⟩
        have h2 := h.1.front q (by show q ≤ (xs').length; omega)
        rw [← hA]
        exact h2
      have HQC : Hid (q1 ≤ cc) := by show _ ≤ _; omega
      have HQ2 : Hid (q1 - 1 = q) := by show _ = _; omega
      have HQ3 : Hid (1 ≤ q1) := by show _ ≤ _; omega
      have HQS : Hid (q1 ≤ rl) := by show _ ≤ _; omega
      have HAFZ : Hid (cc = q1 → aftR n R0 = (L ++ [A]) ++ aftR (n - (i + 1)) []) := fun e => by
        rw [HAFN.out, List.drop_eq_nil_of_le (by omega)]
      have HAFV : Hid (cc = q1 → rl = cc) := fun e => by omega
      have HRD : Hid ((xs'.drop q).length = rl - q1) := by show _ = _; rw [List.length_drop]; omega
      have HSD : Hid (SlIT WC (.slice (some ⟨bl, oo + q1, none⟩) (rl - q1) (cc - q1)) (xs'.drop q)) := by
        have h := HSR.out.rest q1 (by show q1 ≤ xs'.length + 1; omega)
        rw [show (((q : Int)) :: xs').length = rl from HRL'.out, ← hq1, List.drop_succ_cons] at h
        rw [← hq1]
        exact h
      have HPD : Hid (∀ z ∈ xs'.drop q, 0 ≤ z ∧ z ≤ 10000000) := fun z hz => HPR.out z (List.mem_cons_of_mem _ (List.mem_of_mem_drop hz))
      have HLD : Hid ((xs'.drop q).length ≤ 100000) := by show _ ≤ _; rw [List.length_drop]; have h := HRB.out; have : (((q : Int)) :: xs').length = xs'.length + 1 := rfl; omega
      have HAFD := HAFN
      clear hlt hqr hA HAFN2 hq1 hc1 hcell
      go_upto_region 14 with fail
      refine wp_region_gj (J := GJ _ (SQ WC.heap.size 11 (fun w v => OwnL w WC.heap.size v (L ++ [A])) (fun κ => match κ with | 0 => .eq (.pointer (some ⟨w.heap.size + 1, 1, none⟩)) | 1 => .eq (va) | 2 => .eq (.slice none 0 0) | 3 => .eq (.slice (some ⟨bl, oo, none⟩) rl cc) | 4 => .eq (.slice (some ⟨bl, oo, none⟩) rl cc) | 5 => .eq (.pointer (some ⟨bl, oo, none⟩)) | 6 => .eq (.int .i64 (q : Int)) | 7 => .eq (.int .i64 (q1 : Int)) | 8 => .eq (.slice (some ⟨bl, oo + 1, none⟩) q (cc - 1)) | 9 => .inn (A) | 10 => .two (A) | 11 => .own | 12 => .eq (.pointer (some ⟨w.heap.size + 1, 1, none⟩)) | _ => .any)) (CQ WC (w.heap.size + 1) 11 13 (fun v => #[vs, v]) va (fun w v => OwnL w WC.heap.size v L) (fun w v => OwnL w WC.heap.size v (L ++ [A]))) _) (by kernel_rfl) ?_ ?_ (GJ.start (CQ.start (fun _ _ _ h hb => h.after hb) hFL.out hOL.out hBL.out))
      · intro listed a w9 i hr hj
        obtain ⟨hi12, hun, _, _, _⟩ := ready_mem hr
        have h12 : i ∈ List.range 14 := List.mem_range.2 hi12
        simp only [List.range, List.range.loop, List.mem_cons, List.not_mem_nil, or_false] at h12
        obtain ⟨f, rfl, hcm, hf⟩ := hj.opened [91, 92, 93, 94, 95, 96, 97, 98, 99, 100, 101, 102, 103] (by kernel_rfl)
        replace hcm : CQ WC (w.heap.size + 1) 11 13 (fun v => #[vs, v]) va (fun w v => OwnL w WC.heap.size v L) (fun w v => OwnL w WC.heap.size v (L ++ [A])) listed f w9 := hcm
        have hlsz : listed.size = 14 := hj.lsize
        rcases h12 with rfl | rfl | rfl | rfl | rfl | rfl | rfl | rfl | rfl | rfl | rfl | rfl | rfl | rfl
        · have nS : ¬ up listed 13 := fun h => not_up hun (hj.closed 13 0 h (by kernel_rfl))
          have klt := (hcm.box nS).lt
          have HCM := Lib.hid hcm
          clear hcm
          refine GJ.op hj (by kernel_rfl) hr rfl [91, 92, 93, 94, 95, 96, 97, 98, 99, 100, 101, 102, 103] (by kernel_rfl) (fun K hK => ?_)
          simp only [Act.put, List.foldl_cons, List.foldl_nil, List.setIfInBounds_toArray, List.set_cons_zero, List.set_cons_succ] at hK ⊢
          clear hj hf
          go_simp
          exact hK _ _ (fun k v _ _ h => h.keep (fun _ _ _ h hb => h.after hb) (Below.refl _ _)) (fun t ht => SQ.of (.eq (.pointer (some ⟨w.heap.size + 1, 1, none⟩))) rfl rfl) (HCM.out.keep (fun _ _ _ h hb => h.after hb) (fun _ _ _ h hb => h.after hb) (by decide) (by decide) (Below.refl _ _))
        · have e1 : f 91 = .pointer (some ⟨w.heap.size + 1, 1, none⟩) := hf 0 _ _ rfl rfl (up_dep hr (by kernel_rfl))
          have nS : ¬ up listed 13 := fun h => not_up hun (hj.closed 13 1 h (by kernel_rfl))
          have kx : w9.cell? ⟨w.heap.size + 1, 1, none⟩ = some (va) := (hcm.box nS).cell 1
          have klt := (hcm.box nS).lt
          have HCM := Lib.hid hcm
          clear hcm
          refine GJ.op hj (by kernel_rfl) hr rfl [91, 92, 93, 94, 95, 96, 97, 98, 99, 100, 101, 102, 103] (by kernel_rfl) (fun K hK => ?_)
          simp only [Act.put, List.foldl_cons, List.foldl_nil, List.setIfInBounds_toArray, List.set_cons_zero, List.set_cons_succ] at hK ⊢
          clear hj hf
          rw [e1] at hK ⊢
          clear e1
          go_simp
          exact hK _ _ (fun k v _ _ h => h.keep (fun _ _ _ h hb => h.after hb) (Below.refl _ _)) (fun t ht => SQ.of (.eq (va)) rfl rfl) (HCM.out.keep (fun _ _ _ h hb => h.after hb) (fun _ _ _ h hb => h.after hb) (by decide) (by decide) (Below.refl _ _))
        · have HCM := Lib.hid hcm
          clear hcm
          refine GJ.op hj (by kernel_rfl) hr rfl [91, 92, 93, 94, 95, 96, 97, 98, 99, 100, 101, 102, 103] (by kernel_rfl) (fun K hK => ?_)
          simp only [Act.put, List.foldl_cons, List.foldl_nil, List.setIfInBounds_toArray, List.set_cons_zero, List.set_cons_succ] at hK ⊢
          clear hj hf
          go_simp
          exact hK _ _ (fun k v _ _ h => h.keep (fun _ _ _ h hb => h.after hb) (Below.refl _ _)) (fun t ht => SQ.of (.eq (.slice none 0 0)) rfl rfl) (HCM.out.keep (fun _ _ _ h hb => h.after hb) (fun _ _ _ h hb => h.after hb) (by decide) (by decide) (Below.refl _ _))
        · have HCM := Lib.hid hcm
          clear hcm
          refine GJ.op hj (by kernel_rfl) hr rfl [91, 92, 93, 94, 95, 96, 97, 98, 99, 100, 101, 102, 103] (by kernel_rfl) (fun K hK => ?_)
          simp only [Act.put, List.foldl_cons, List.foldl_nil, List.setIfInBounds_toArray, List.set_cons_zero, List.set_cons_succ] at hK ⊢
          clear hj hf
          go_simp
          exact hK _ _ (fun k v _ _ h => h.keep (fun _ _ _ h hb => h.after hb) (Below.refl _ _)) (fun t ht => SQ.of (.eq (.slice (some ⟨bl, oo, none⟩) rl cc)) rfl rfl) (HCM.out.keep (fun _ _ _ h hb => h.after hb) (fun _ _ _ h hb => h.after hb) (by decide) (by decide) (Below.refl _ _))
        · have HCM := Lib.hid hcm
          clear hcm
          refine GJ.op hj (by kernel_rfl) hr rfl [91, 92, 93, 94, 95, 96, 97, 98, 99, 100, 101, 102, 103] (by kernel_rfl) (fun K hK => ?_)
          simp only [Act.put, List.foldl_cons, List.foldl_nil, List.setIfInBounds_toArray, List.set_cons_zero, List.set_cons_succ] at hK ⊢
          clear hj hf
          go_simp
          exact hK _ _ (fun k v _ _ h => h.keep (fun _ _ _ h hb => h.after hb) (Below.refl _ _)) (fun t ht => SQ.of (.eq (.slice (some ⟨bl, oo, none⟩) rl cc)) rfl rfl) (HCM.out.keep (fun _ _ _ h hb => h.after hb) (fun _ _ _ h hb => h.after hb) (by decide) (by decide) (Below.refl _ _))
        · have e1 : f 95 = .slice (some ⟨bl, oo, none⟩) rl cc := hf 4 _ _ rfl rfl (up_dep hr (by kernel_rfl))
          have h5 : (0 : Int) < (rl : Int) := by have := HRL.out; omega
          have HCM := Lib.hid hcm
          clear hcm
          refine GJ.op hj (by kernel_rfl) hr rfl [91, 92, 93, 94, 95, 96, 97, 98, 99, 100, 101, 102, 103] (by kernel_rfl) (fun K hK => ?_)
          simp only [Act.put, List.foldl_cons, List.foldl_nil, List.setIfInBounds_toArray, List.set_cons_zero, List.set_cons_succ] at hK ⊢
          clear hj hf
          rw [e1] at hK ⊢
          clear e1
          go_simp
          exact hK _ _ (fun k v _ _ h => h.keep (fun _ _ _ h hb => h.after hb) (Below.refl _ _)) (fun t ht => SQ.of (.eq (.pointer (some ⟨bl, oo, none⟩))) rfl rfl) (HCM.out.keep (fun _ _ _ h hb => h.after hb) (fun _ _ _ h hb => h.after hb) (by decide) (by decide) (Below.refl _ _))
        · have e1 : f 96 = .pointer (some ⟨bl, oo, none⟩) := hf 5 _ _ rfl rfl (up_dep hr (by kernel_rfl))
          have kx : w9.cell? ⟨bl, oo, none⟩ = some (.int .i64 (q : Int)) := hcm.fx.cell HC0.out HNE.out
          have klt := Nat.lt_of_lt_of_le HBL.out hcm.fx.size
          have HCM := Lib.hid hcm
          clear hcm
          refine GJ.op hj (by kernel_rfl) hr rfl [91, 92, 93, 94, 95, 96, 97, 98, 99, 100, 101, 102, 103] (by kernel_rfl) (fun K hK => ?_)
          simp only [Act.put, List.foldl_cons, List.foldl_nil, List.setIfInBounds_toArray, List.set_cons_zero, List.set_cons_succ] at hK ⊢
          clear hj hf
          rw [e1] at hK ⊢
          clear e1
          go_simp
          exact hK _ _ (fun k v _ _ h => h.keep (fun _ _ _ h hb => h.after hb) (Below.refl _ _)) (fun t ht => SQ.of (.eq (.int .i64 (q : Int))) rfl rfl) (HCM.out.keep (fun _ _ _ h hb => h.after hb) (fun _ _ _ h hb => h.after hb) (by decide) (by decide) (Below.refl _ _))
        · have e1 : f 97 = .int .i64 (q : Int) := hf 6 _ _ rfl rfl (up_dep hr (by kernel_rfl))
          have h4 := HQ1.out
          have h5 := HQS.out
          have HCM := Lib.hid hcm
          clear hcm
          refine GJ.op hj (by kernel_rfl) hr rfl [91, 92, 93, 94, 95, 96, 97, 98, 99, 100, 101, 102, 103] (by kernel_rfl) (fun K hK => ?_)
          simp only [Act.put, List.foldl_cons, List.foldl_nil, List.setIfInBounds_toArray, List.set_cons_zero, List.set_cons_succ] at hK ⊢
          clear hj hf
          rw [e1] at hK ⊢
          clear e1
          go_simp
          rw [wrap_in (z := (q1 : Int)) (by omega) (by omega)]
          exact hK _ _ (fun k v _ _ h => h.keep (fun _ _ _ h hb => h.after hb) (Below.refl _ _)) (fun t ht => SQ.of (.eq (.int .i64 (q1 : Int))) rfl rfl) (HCM.out.keep (fun _ _ _ h hb => h.after hb) (fun _ _ _ h hb => h.after hb) (by decide) (by decide) (Below.refl _ _))
        · have e1 : f 94 = .slice (some ⟨bl, oo, none⟩) rl cc := hf 3 _ _ rfl rfl (up_dep hr (by kernel_rfl))
          have e2 : f 98 = .int .i64 (q1 : Int) := hf 7 _ _ rfl rfl (up_dep hr (by kernel_rfl))
          have h5 := HQC.out
          have h6 := HQ2.out
          have h7 := HQ3.out
          have h8 := HC1.out
          have h5i : (q1 : Int) ≤ (cc : Int) := by omega
          have h7i : (1 : Int) ≤ (q1 : Int) := by omega
          have h0i : (0 : Int) ≤ (q1 : Int) := by omega
          have HCM := Lib.hid hcm
          clear hcm
          refine GJ.op hj (by kernel_rfl) hr rfl [91, 92, 93, 94, 95, 96, 97, 98, 99, 100, 101, 102, 103] (by kernel_rfl) (fun K hK => ?_)
          simp only [Act.put, List.foldl_cons, List.foldl_nil, List.setIfInBounds_toArray, List.set_cons_zero, List.set_cons_succ] at hK ⊢
          clear hj hf
          rw [e1, e2] at hK ⊢
          clear e1 e2
          go_simp
          exact hK _ _ (fun k v _ _ h => h.keep (fun _ _ _ h hb => h.after hb) (Below.refl _ _)) (fun t ht => SQ.of (.eq (.slice (some ⟨bl, oo + 1, none⟩) q (cc - 1))) rfl rfl) (HCM.out.keep (fun _ _ _ h hb => h.after hb) (fun _ _ _ h hb => h.after hb) (by decide) (by decide) (Below.refl _ _))
        · have e1 : f 93 = .slice none 0 0 := hf 2 _ _ rfl rfl (up_dep hr (by kernel_rfl))
          have e2 : f 99 = .slice (some ⟨bl, oo + 1, none⟩) q (cc - 1) := hf 8 _ _ rfl rfl (up_dep hr (by kernel_rfl))
          have HCM := Lib.hid hcm
          clear hcm
          refine GJ.op hj (by kernel_rfl) hr rfl [91, 92, 93, 94, 95, 96, 97, 98, 99, 100, 101, 102, 103] (by kernel_rfl) (fun K hK => ?_)
          simp only [Act.put, List.foldl_cons, List.foldl_nil, List.setIfInBounds_toArray, List.set_cons_zero, List.set_cons_succ] at hK ⊢
          clear hj hf
          rw [e1, e2] at hK ⊢
          clear e1 e2
          have hbase := HCM.out.fx.size
          refine step_appI ?q3 (.tmp 93) (.tmp 99) ?q4 w9.heap.size _ _ [] A ?q1 (OwnI.nil _ _) ?q2 (HSA.out.fx HCM.out.fx (NoP.of HBY.out.tag (by decide) (by decide) (by decide)).1).1 (by have := HAL.out; simp; omega) (Nat.le_refl _) ?_
          case q1 => rfl
          case q2 => rfl
          case q3 => rfl
          case q4 => rfl
          intro v11 w11 hown11 hb11
          exact hK _ _ (fun k v _ _ h => h.keep (fun _ _ _ h hb => h.after hb) hb11) (fun t ht => SQ.of (.inn A) rfl (fun _ => (by simpa using hown11.le hbase))) (HCM.out.keep (fun _ _ _ h hb => h.after hb) (fun _ _ _ h hb => h.after hb) (by decide) (by decide) (hb11))
        · have s1 : KQ.holds WC.heap.size 11 (fun w v => OwnL w WC.heap.size v (L ++ [A])) listed 9 (.inn (A)) (f 100) w9 := hf 9 _ _ rfl rfl (up_dep hr (by kernel_rfl))
          have NA : ¬ up listed 11 := fun h => not_up hun (hj.closed 11 10 h (by kernel_rfl))
          have HCM := Lib.hid hcm
          clear hcm
          refine GJ.op hj (by kernel_rfl) hr rfl [91, 92, 93, 94, 95, 96, 97, 98, 99, 100, 101, 102, 103] (by kernel_rfl) (fun K hK => ?_)
          simp only [Act.put, List.foldl_cons, List.foldl_nil, List.setIfInBounds_toArray, List.set_cons_zero, List.set_cons_succ] at hK ⊢
          clear hj hf
          obtain ⟨zb, hzb⟩ : ∃ z, f 100 = z := ⟨_, rfl⟩
          rw [hzb] at hK s1 ⊢
          clear hzb
          obtain ⟨pz, cz, ez, _⟩ := (s1 NA).shape
          have HS1 := Lib.hid (s1 NA)
          obtain ⟨lz, hlz⟩ : ∃ lz, A.length = lz := ⟨_, rfl⟩
          rw [hlz] at ez
          clear s1 hlz
          subst ez
          go_simp
          exact hK _ _ (fun k v _ _ h => h.keep (fun _ _ _ h hb => h.after hb) (held_alloc (Below.refl _ _))) (fun t ht => SQ.of (.two A) rfl (fun _ => ⟨_, _, rfl, Box.new _ _ _, HS1.out.after (held_alloc (Below.refl _ _))⟩)) (HCM.out.keep (fun _ _ _ h hb => h.after hb) (fun _ _ _ h hb => h.after hb) (by decide) (by decide) (held_alloc (Below.refl _ _)))
        · have e1 : f 92 = va := hf 1 _ _ rfl rfl (up_dep hr (by kernel_rfl))
          have s2 : KQ.holds WC.heap.size 11 (fun w v => OwnL w WC.heap.size v (L ++ [A])) listed 10 (.two (A)) (f 101) w9 := hf 10 _ _ rfl rfl (up_dep hr (by kernel_rfl))
          have nA := not_up hun
          have nS : ¬ up listed 13 := fun h => nA (hj.closed 13 11 h (by kernel_rfl))
          obtain ⟨bx, u, e2, hbx, hou⟩ := s2 nA
          obtain ⟨us, g0, g1, g2⟩ := hcm.own nA
          have HG2 := Lib.hid g2
          clear g2
          have HCM := Lib.hid hcm
          clear hcm
          refine GJ.op hj (by kernel_rfl) hr rfl [91, 92, 93, 94, 95, 96, 97, 98, 99, 100, 101, 102, 103] (by kernel_rfl) (fun K hK => ?_)
          simp only [Act.put, List.foldl_cons, List.foldl_nil, List.setIfInBounds_toArray, List.set_cons_zero, List.set_cons_succ] at hK ⊢
          clear hj hf
          rw [e1] at hK ⊢
          clear e1
          rw [e2] at hK ⊢
          clear e2 s2
          have hbase := HCM.out.fx.size
          refine step_appC ?q3 (.tmp 92) (.tmp 101) 25 ?q4 WC.heap.size 54 1 24 _ Tryz.underlying25 infoLs rfl (by decide) (by decide) va (us.map fun u => [u]) [u] ?q1 g1 rfl ?q5 ⟨bx, 0, none⟩ 1 ?q2 hbx.news (by rw [List.length_map, g0]; exact HLL.out) hbase ?_
          case q1 => rfl
          case q2 => rfl
          case q3 => rfl
          case q4 => rfl
          case q5 => (obtain ⟨pz, cz, ez, _⟩ := hou.shape; subst ez; simp [Value.oneCell'])
          intro v11 w11 hown11 hf11
          have hnt : NoT (fun b => some b = va.ownBlock) w9 3 := fun b e k => by cases (g1.lt b e).2.one k
          exact hK _ _ (fun k v hne _ h => h.app hne (by rw [hlsz]; decide)) (fun t ht => SQ.of .own rfl (fun _ => OwnL.push g0 hown11 (fun i hi => (HG2.out i hi).fx hf11 hnt) (hou.slT.fx hf11 hnt))) (HCM.out.app (by decide) (by rw [hlsz]; decide) HPL.out nS (fun b e => (g1.lt b e).1) hf11)
        · have nS : ¬ up listed 13 := fun h => not_up hun (hj.closed 13 12 h (by kernel_rfl))
          have klt := (hcm.box nS).lt
          have HCM := Lib.hid hcm
          clear hcm
          refine GJ.op hj (by kernel_rfl) hr rfl [91, 92, 93, 94, 95, 96, 97, 98, 99, 100, 101, 102, 103] (by kernel_rfl) (fun K hK => ?_)
          simp only [Act.put, List.foldl_cons, List.foldl_nil, List.setIfInBounds_toArray, List.set_cons_zero, List.set_cons_succ] at hK ⊢
          clear hj hf
          go_simp
          exact hK _ _ (fun k v _ _ h => h.keep (fun _ _ _ h hb => h.after hb) (Below.refl _ _)) (fun t ht => SQ.of (.eq (.pointer (some ⟨w.heap.size + 1, 1, none⟩))) rfl rfl) (HCM.out.keep (fun _ _ _ h hb => h.after hb) (fun _ _ _ h hb => h.after hb) (by decide) (by decide) (Below.refl _ _))
        · have e1 : f 103 = .pointer (some ⟨w.heap.size + 1, 1, none⟩) := hf 12 _ _ rfl rfl (up_dep hr (by kernel_rfl))
          have s2 : KQ.holds WC.heap.size 11 (fun w v => OwnL w WC.heap.size v (L ++ [A])) listed 11 (.own) (f 102) w9 := hf 11 _ _ rfl rfl (up_dep hr (by kernel_rfl))
          have nS := not_up hun
          have uA : up listed 11 := up_dep hr (by kernel_rfl)
          have hbx := hcm.box nS
          have HCM := Lib.hid hcm
          clear hcm
          have HO := Lib.hid (s2 rfl)
          obtain ⟨usz, gz, gz1, _⟩ := HO.out
          obtain ⟨pz, cz, ez, _⟩ := gz1.shape
          obtain ⟨lz, hlz⟩ : ∃ lz, (usz.map fun u => [u]).length = lz := ⟨_, rfl⟩
          rw [hlz] at ez
          clear s2 hlz gz gz1
          refine GJ.op hj (by kernel_rfl) hr rfl [91, 92, 93, 94, 95, 96, 97, 98, 99, 100, 101, 102, 103] (by kernel_rfl) (fun K hK => ?_)
          simp only [Act.put, List.foldl_cons, List.foldl_nil, List.setIfInBounds_toArray, List.set_cons_zero, List.set_cons_succ] at hK ⊢
          clear hj hf
          rw [e1] at hK ⊢
          clear e1
          obtain ⟨zb, hzb⟩ : ∃ z, f 102 = z := ⟨_, rfl⟩
          rw [hzb] at hK HO ez ⊢
          subst ez
          clear hzb
          have y0 : w9.cell? ⟨w.heap.size + 1, 1, none⟩ = some va := hbx.cell 1
          have g0 := hbx.frozen 1
          have yl := hbx.lt
          have HBX := Lib.hid hbx
          clear hbx
          go_simp
          have hset : ∀ v u, OwnL w9 WC.heap.size v (L ++ [A]) → OwnL (w9.setCell ⟨w.heap.size + 1, 1, none⟩ u) WC.heap.size v (L ++ [A]) := fun v u h => h.fx (Fx.set w9 _ 1 _) (fun b e k => by have := k.1; have := HPL.out; omega) (fun b e k => by subst e; cases k.one HBX.out.tag)
          exact hK undef _ (fun k v _ _ h => h.put uA (fun v h => hset v _ h)) (fun t ht => by cases ht) (HCM.out.put (j := 1) (by rw [hlsz]; decide) uA (by decide) nS rfl (hset _ _ HO.out))
      · intro listed a w10 hr hj
        have hu : ∀ k, k < 14 → up listed k := fun k hk => all_up (by kernel_rfl) hj.lsize hr k hk
        obtain ⟨f, rfl, hcm, hf⟩ := hj.opened [91, 92, 93, 94, 95, 96, 97, 98, 99, 100, 101, 102, 103] (by kernel_rfl)
        replace hcm : CQ WC (w.heap.size + 1) 11 13 (fun v => #[vs, v]) va (fun w v => OwnL w WC.heap.size v L) (fun w v => OwnL w WC.heap.size v (L ++ [A])) listed f w10 := hcm
        obtain ⟨v', hO', hB'⟩ := hcm.new (hu 13 (by omega))
        have hF' := hcm.fx
        have HO' := Lib.hid hO'
        have HB' := Lib.hid hB'
        have HF' := Lib.hid hF'
        clear hcm hO' hB' hF' hj hf hu
        simp only [List.foldl_cons, List.foldl_nil, List.setIfInBounds_toArray, List.set_cons_zero, List.set_cons_succ]
        have kx : w10.cell? ⟨bl, oo, none⟩ = some (.int .i64 (q : Int)) := HF'.out.cell HC0.out HNE.out
        have klt := Nat.lt_of_lt_of_le HBL.out HF'.out.size
        have r0 : (0 : Int) < (rl : Int) := by have := HRL.out; omega
        have h4 := HQ1.out
        have h5 := HQC.out
        have h6 := HQ2.out
        have h8 := HC1.out
        by_cases hcq : cc = q1
        · have HAF0 := Lib.hid (HAFZ.out hcq)
          have hrv := HAFV.out hcq
          clear HAFZ HAFV
          subst hrv
          subst hcq
          go_wp2_with fail
          go_roundg (n - (i + 1))
          case measure => omega
          case rel => exact ⟨i + 1, v', L ++ [A], [], oo, 0, 0, by omega, rfl, by first | rfl | simp, by go_num, rfl, HS0.out, (fun z hz => by simp at hz), by show _ ≤ _; simp, HAF0.out, by have := HLI.out; show _ ≤ _; simp; omega, HO'.out, HB'.out, HF'.out⟩
        · go_wp2_with fail
          go_roundg (n - (i + 1))
          case measure => omega
          case rel => exact ⟨i + 1, v', L ++ [A], xs'.drop q, oo + q1, rl - q1, cc - q1, by omega, rfl, rfl, by go_num, HRD.out, HSD.out, HPD.out, HLD.out, HAFD.out, by have := HLI.out; show _ ≤ _; simp; omega, HO'.out, HB'.out, HF'.out⟩
end Go.Proofs.YtpaoeeamlinaaaaGreatDoor
