/- Journal, walks of the package: plan. -/
import Derived.Test.YtpaoeeamlinaaaaGreatDoorK09
set_option linter.unusedVariables false
namespace Go.Proofs.YtpaoeeamlinaaaaGreatDoor
open Go.RowKit

theorem infoStp : (Tryz.prog.info? 53).map (fun i => (i.zero, i.size, i.bytes)) = some (some (.agg #[.int .u8 0, .int .i64 0, .int .i64 0, .int .i64 0]), 4, 32) := by kernel_rfl
theorem infoLs : (Tryz.prog.info? 54).map (fun i => (i.zero, i.size, i.bytes)) = some (some (.slice none 0 0), 1, 24) := by kernel_rfl
theorem up_other {listed : Array Bool} {i k : Nat} (hne : k ≠ i) : up (listed.setIfInBounds i true) k ↔ up listed k := ⟨fun h => up_set h hne, up_keep⟩
/-- The taker's state, by how many of the four calls have come up. -/
structure TkC (Bl Bm : Nat) (s0 s1 s2 s3 s4 : Tk) (listed : Array Bool) (w : World) : Prop where
  t0 : ¬ up listed 3 → TkAt w Bl Bm s0
  t1 : up listed 3 → ¬ up listed 6 → TkAt w Bl Bm s1
  t2 : up listed 6 → ¬ up listed 8 → TkAt w Bl Bm s2
  t3 : up listed 8 → ¬ up listed 10 → TkAt w Bl Bm s3
  t4 : up listed 10 → TkAt w Bl Bm s4
section
variable {Bl Bm : Nat} {s0 s1 s2 s3 s4 : Tk} {listed : Array Bool} {w w' : World}
theorem TkC.start {n : Nat} (h : TkAt w Bl Bm s0) : TkC Bl Bm s0 s1 s2 s3 s4 (Array.replicate n false) w :=
  ⟨fun _ => h, fun h => absurd h (up_none _ _), fun h => absurd h (up_none _ _), fun h => absurd h (up_none _ _), fun h => absurd h (up_none _ _)⟩
theorem TkC.any (h : TkC Bl Bm s0 s1 s2 s3 s4 listed w) : ∃ s, TkAt w Bl Bm s := by
  by_cases h3 : up listed 3
  · by_cases h6 : up listed 6
    · by_cases h8 : up listed 8
      · by_cases h10 : up listed 10
        · exact ⟨_, h.t4 h10⟩
        · exact ⟨_, h.t3 h8 h10⟩
      · exact ⟨_, h.t2 h6 h8⟩
    · exact ⟨_, h.t1 h3 h6⟩
  · exact ⟨_, h.t0 h3⟩
theorem TkC.keep {i : Nat} (h : TkC Bl Bm s0 s1 s2 s3 s4 listed w) (h3 : 3 ≠ i) (h6 : 6 ≠ i) (h8 : 8 ≠ i) (h10 : 10 ≠ i) (hk : ∀ s, TkAt w Bl Bm s → TkAt w' Bl Bm s) : TkC Bl Bm s0 s1 s2 s3 s4 (listed.setIfInBounds i true) w' := by
  refine ⟨fun a => ?_, fun a b => ?_, fun a b => ?_, fun a b => ?_, fun a => ?_⟩ <;> simp only [up_other h3, up_other h6, up_other h8, up_other h10] at *
  · exact hk _ (h.t0 a)
  · exact hk _ (h.t1 a b)
  · exact hk _ (h.t2 a b)
  · exact hk _ (h.t3 a b)
  · exact hk _ (h.t4 a)
theorem TkC.do3 (hl : 3 < listed.size) (n6 : ¬ up listed 6) (n8 : ¬ up listed 8) (n10 : ¬ up listed 10) (h : TkAt w Bl Bm s1) : TkC Bl Bm s0 s1 s2 s3 s4 (listed.setIfInBounds 3 true) w :=
  ⟨fun a => absurd (up_self hl) a, fun _ _ => h, fun a _ => absurd (up_set a (by decide)) n6, fun a _ => absurd (up_set a (by decide)) n8, fun a => absurd (up_set a (by decide)) n10⟩
theorem TkC.do6 (hl : 6 < listed.size) (u3 : up listed 3) (n8 : ¬ up listed 8) (n10 : ¬ up listed 10) (h : TkAt w Bl Bm s2) : TkC Bl Bm s0 s1 s2 s3 s4 (listed.setIfInBounds 6 true) w :=
  ⟨fun a => absurd (up_keep u3) a, fun _ a => absurd (up_self hl) a, fun _ _ => h, fun a _ => absurd (up_set a (by decide)) n8, fun a => absurd (up_set a (by decide)) n10⟩
theorem TkC.do8 (hl : 8 < listed.size) (u3 : up listed 3) (u6 : up listed 6) (n10 : ¬ up listed 10) (h : TkAt w Bl Bm s3) : TkC Bl Bm s0 s1 s2 s3 s4 (listed.setIfInBounds 8 true) w :=
  ⟨fun a => absurd (up_keep u3) a, fun _ a => absurd (up_keep u6) a, fun _ a => absurd (up_self hl) a, fun _ _ => h, fun a => absurd (up_set a (by decide)) n10⟩
theorem TkC.do10 (hl : 10 < listed.size) (u3 : up listed 3) (u6 : up listed 6) (u8 : up listed 8) (h : TkAt w Bl Bm s4) : TkC Bl Bm s0 s1 s2 s3 s4 (listed.setIfInBounds 10 true) w :=
  ⟨fun a => absurd (up_keep u3) a, fun _ a => absurd (up_keep u6) a, fun _ a => absurd (up_keep u8) a, fun _ a => absurd (up_self hl) a, fun _ => h⟩
end
/-- What an operation yields. -/
inductive KP where
  | any
  | eq (u : Value)
  | lit (row : List Value)
  | own (l : List Stp)
def KP.holds (base : Nat) (listed : Array Bool) (i : Nat) (k : KP) (v : Value) (w : World) : Prop := match k with
  | .any => True
  | .eq u => v = u
  | .lit row => ¬ up listed 13 → ∃ b, v = .slice (some ⟨b, 0, none⟩) 1 1 ∧ Box w b row.toArray 53
  | .own l => i = 13 → OwnS w base v l
def SP (base : Nat) (K : Nat → KP) (listed : Array Bool) (k : Nat) (v : Value) (w : World) : Prop := (K k).holds base listed k v w
theorem SP.of {base : Nat} {K : Nat → KP} {listed : Array Bool} {k : Nat} {v : Value} {w : World} (κ : KP) (hk : K k = κ) (h : κ.holds base listed k v w) : SP base K listed k v w := by unfold SP; rw [hk]; exact h
theorem SP.fx {base : Nat} {K : Nat → KP} {listed : Array Bool} {i k : Nat} {v : Value} {w w' : World} {S : Nat → Prop} (h : SP base K listed k v w) (hf : Fx S w w') (hn : NoT S w 53) : SP base K (listed.setIfInBounds i true) k v w' := by
  unfold SP at h ⊢
  generalize K k = κ at h ⊢
  cases κ with
  | any => trivial
  | eq u => exact h
  | lit row =>
    intro hu
    obtain ⟨b, e, hb⟩ := h (fun u => hu (up_keep u))
    exact ⟨b, e, hb.fx hf (fun hs => hn b hs hb.tag)⟩
  | own l => exact fun e => ⟨(h e).1, (h e).2.fx hf (fun b hs hh => hn b hs hh.2)⟩
theorem SP.app {base : Nat} {K : Nat → KP} {listed : Array Bool} {k : Nat} {v : Value} {w w' : World} (h : SP base K listed k v w) (hne : k ≠ 13) (hl : 13 < listed.size) : SP base K (listed.setIfInBounds 13 true) k v w' := by
  unfold SP at h ⊢
  generalize K k = κ at h ⊢
  cases κ with
  | any => trivial
  | eq u => exact h
  | lit row => exact fun hu => absurd (up_self hl) hu
  | own l => exact fun e => absurd e hne
theorem SP.keep {base : Nat} {K : Nat → KP} {listed : Array Bool} {i k : Nat} {v : Value} {w w' : World} (h : SP base K listed k v w) (hb : Below w.heap.size w w') : SP base K (listed.setIfInBounds i true) k v w' :=
  h.fx (S := fun _ => False) (Fx.of_below hb) (fun _ e => e.elim)
/-- The region's common facts. -/
structure CP (W0 : World) (Bl Bm P1 : Nat) (vs va : Value) (l : List Stp) (x : Stp) (s0 s1 s2 s3 s4 : Tk) (listed : Array Bool) (f : Nat → Value) (w : World) : Prop where
  fx : Fx (fun b => TkS Bl Bm b ∨ b = P1) W0 w
  tk : TkC Bl Bm s0 s1 s2 s3 s4 listed w
  own : ¬ up listed 13 → OwnS w W0.heap.size vs l
  box : ¬ up listed 15 → Box w P1 #[vs, va] 27
  new : up listed 15 → ∃ v', OwnS w W0.heap.size v' (l ++ [x]) ∧ Box w P1 #[v', va] 27
section
variable {W0 : World} {Bl Bm P1 : Nat} {vs va : Value} {l : List Stp} {x : Stp} {s0 s1 s2 s3 s4 : Tk} {listed : Array Bool} {f g : Nat → Value} {w w' : World}
theorem CP.start {n : Nat} (hf : Fx (fun b => TkS Bl Bm b ∨ b = P1) W0 w) (ht : TkAt w Bl Bm s0) (ho : OwnS w W0.heap.size vs l) (hb : Box w P1 #[vs, va] 27) : CP W0 Bl Bm P1 vs va l x s0 s1 s2 s3 s4 (Array.replicate n false) f w.drew :=
  ⟨hf.drew, TkC.start (ht.after (below_dr (Below.refl _ _))), fun _ => ⟨ho.1, ho.2.after (below_dr (Below.refl _ _))⟩, fun _ => hb.after (below_dr (Below.refl _ _)), fun h => absurd h (up_none _ _)⟩
/-- Anything but calls, the append, the store. -/
theorem CP.keep {i : Nat} (h : CP W0 Bl Bm P1 vs va l x s0 s1 s2 s3 s4 listed f w) (h3 : 3 ≠ i) (h6 : 6 ≠ i) (h8 : 8 ≠ i) (h10 : 10 ≠ i) (h13 : 13 ≠ i) (h15 : 15 ≠ i) (hb : Below w.heap.size w w') : CP W0 Bl Bm P1 vs va l x s0 s1 s2 s3 s4 (listed.setIfInBounds i true) g w' := by
  refine ⟨h.fx.below hb, h.tk.keep h3 h6 h8 h10 (fun s hs => hs.after hb), fun a => ?_, fun a => ?_, fun a => ?_⟩ <;> simp only [up_other h13, up_other h15] at a
  · exact ⟨(h.own a).1, (h.own a).2.after hb⟩
  · exact (h.box a).after hb
  · obtain ⟨v', k1, k2⟩ := h.new a
    exact ⟨v', ⟨k1.1, k1.2.after hb⟩, k2.after hb⟩
/-- One of the four calls. -/
theorem CP.call {i : Nat} (h : CP W0 Bl Bm P1 vs va l x s0 s1 s2 s3 s4 listed f w) (h13 : 13 ≠ i) (h15 : 15 ≠ i) (n13 : ¬ up listed 13) (n15 : ¬ up listed 15) (hP : P1 ≠ Bl ∧ P1 ≠ Bm) (hf : Fx (TkS Bl Bm) w w') (hn : NoT (TkS Bl Bm) w 53) (ht : TkC Bl Bm s0 s1 s2 s3 s4 (listed.setIfInBounds i true) w') : CP W0 Bl Bm P1 vs va l x s0 s1 s2 s3 s4 (listed.setIfInBounds i true) g w' := by
  refine ⟨h.fx.trans (hf.mono (fun _ e => .inl e)), ht, fun a => ?_, fun a => ?_, fun a => ?_⟩
  · exact ⟨(h.own n13).1, (h.own n13).2.fx hf (fun b e k => hn b e k.2)⟩
  · exact (h.box n15).fx hf (fun e => e.elim hP.1 hP.2)
  · exact absurd (up_set a h15) n15
/-- The append. -/
theorem CP.app (h : CP W0 Bl Bm P1 vs va l x s0 s1 s2 s3 s4 listed f w) (hl : 13 < listed.size) (n13 : ¬ up listed 13) (n15 : ¬ up listed 15) (hf : Fx (fun b => some b = vs.ownBlock) w w') : CP W0 Bl Bm P1 vs va l x s0 s1 s2 s3 s4 (listed.setIfInBounds 13 true) g w' := by
  have ho := h.own n13
  have hb := h.box n15
  refine ⟨h.fx.new hf (fun b e => .inr (ho.2.lt b e).1), h.tk.keep (by decide) (by decide) (by decide) (by decide) (fun s hs => ?_), fun a => absurd (up_self hl) a, fun _ => ?_, fun a => absurd (up_set a (by decide)) n15⟩
  · obtain ⟨⟨v, b1, b2, _⟩, b3⟩ := id hs
    refine hs.fx hf (fun e => ?_) (fun e => ?_) (fun b e k => ?_)
    · cases (ho.2.lt _ e).2.one b1.tag
    · cases (ho.2.lt _ e).2.one b3.tag
    · cases (ho.2.lt _ e).2.one k
  · exact hb.fx hf (fun e => by cases (ho.2.lt _ e).2.one hb.tag)
/-- The store. -/
theorem CP.put {v' : Value} (h : CP W0 Bl Bm P1 vs va l x s0 s1 s2 s3 s4 listed f w) (hl : 15 < listed.size) (hP : P1 ≠ Bl ∧ P1 ≠ Bm) (n15 : ¬ up listed 15) (ho : OwnS w W0.heap.size v' (l ++ [x])) : CP W0 Bl Bm P1 vs va l x s0 s1 s2 s3 s4 (listed.setIfInBounds 15 true) g (w.setCell ⟨P1, 0, none⟩ v') := by
  have hb := h.box n15
  have hf := Fx.set w P1 0 v'
  refine ⟨h.fx.trans (hf.mono (fun _ e => .inr e)), h.tk.keep (by decide) (by decide) (by decide) (by decide) (fun s hs => ?_), fun a => ?_, fun a => absurd (up_self hl) a, fun _ => ⟨v', ⟨ho.1, ho.2.fx hf (fun b e k => by subst e; cases k.2.one hb.tag)⟩, ?_⟩⟩
  · exact hs.fx hf (fun e => hP.1 e.symm) (fun e => hP.2 e.symm) (fun b e k => by subst e; cases k.one hb.tag)
  · have ho' := h.own (fun u => a (up_keep u))
    exact ⟨ho'.1, ho'.2.fx hf (fun b e k => by subst e; cases k.2.one hb.tag)⟩
  · have := hb.set 0 v'
    simpa using this
end
theorem OwnS.push {w' : World} {base : Nat} {v' : Value} {l : List Stp} {x : Stp} (h0 : ∀ s ∈ l, StpOk s) (hx : StpOk x) (h : OwnC w' base 53 4 v' (l.map stpV ++ [stpV x])) : OwnS w' base v' (l ++ [x]) :=
  ⟨fun s hs => (List.mem_append.1 hs).elim (h0 s) (fun h => by rw [List.mem_singleton.1 h]; exact hx), by rw [List.map_append]; exact h⟩
theorem OwnL.fx {w W : World} {base : Nat} {v : Value} {l : List (List Int)} {S : Nat → Prop} (h : OwnL w base v l) (hf : Fx S w W) (hS : ∀ b, S b → ¬ (base ≤ b ∧ TagB w b 54)) (hn : NoT S w 3) : OwnL W base v l := by
  obtain ⟨us, h0, h1, h2⟩ := h
  exact ⟨us, h0, h1.fx hf hS, fun i hi => (h2 i hi).fx hf hn⟩
theorem OwnC.alloc_lt {w : World} {base : Nat} {e : TypeId} {k : Nat} {v : Value} {rows : List (List Value)} (h : OwnC w base e k v rows) (o : Obj) : ∀ b, some b = v.ownBlock → base ≤ b ∧ TagB (w.alloc o) b e :=
  (h.after (held_alloc (Below.refl _ _))).lt
theorem step_appC {w : World} {ops : Array Oper} {o : Oper} {tm : Array Value} {df : List Deferred} {K : Act → World → Prop} {Q : Exit → Act → World → Prop} {E : Prop} (hg : o.guard = none) (s x : Operand) (t : TypeId)
    (ho : o.op = .call { callee := .builtin .append, args := #[s, x], argTypes := #[t, t] })
    (base : Nat) (e : TypeId) (k bytes : Nat) (z : Value) (ht : Tryz.prog.underlying t = some (.slice e)) (hi : (Tryz.prog.info? e).map (fun i => (i.zero, i.size, i.bytes)) = some (some z, k, bytes)) (hzs : z.cells.size = k) (hk : 0 < k) (hby : bytes ≤ 1000)
    (v : Value) (rows : List (List Value)) (row : List Value) (hs : (⟨tm, df⟩ : Act).eval s = v) (hown : OwnC w base e k v rows) (hrow : row.length = k) (h1 : ∀ u ∈ row, u.oneCell' = true) (ad : Addr) (c : Nat) (hx : (⟨tm, df⟩ : Act).eval x = .slice (some ad) 1 c) (hnews : ∀ j u, row[j]? = some u → w.cell? (ad.add j) = some u) (hl : rows.length ≤ 1000000) (hbase : base ≤ w.heap.size)
    (hK : ∀ v' w', OwnC w' base e k v' (rows ++ [row]) → Fx (fun b => some b = v.ownBlock) w w' → K ((⟨tm, df⟩ : Act).put o.dst v') w') :
    if Region.wanted o (yielded ops tm) = true then o.wp Tryz.prog ⟨tm, df⟩ w K Q else E := by
  have hw : Region.wanted o (yielded ops tm) = true := by simp [Region.wanted, hg]
  rw [if_pos hw]
  obtain ⟨v', w', hr, h2, h3⟩ := run_appC w base t o.type e k bytes z ht hi hzs hk hby v rows row hown hrow h1 ad c hnews hl hbase
  unfold Oper.wp execOp
  simp only [ho, resolve, invoke, builtin, Sem.run_bind, Sem.run_pure, Result.andThen_ok, List.map_toArray, List.map_cons, List.map_nil, hs, hx, hr]
  exact hK v' w' h2 h3
theorem Box.news {w : World} {b : Nat} {row : List Value} {t : TypeId} (h : Box w b row.toArray t) : ∀ j u, row[j]? = some u → w.cell? ((⟨b, 0, none⟩ : Addr).add j) = some u := by
  intro j u hj
  have hadd : (⟨b, 0, none⟩ : Addr).add j = ⟨b, j, none⟩ := by unfold Addr.add; split <;> simp_all
  rw [hadd, h.cell j]
  simpa using hj
theorem TkAt.in64 {w : World} {Bl Bm : Nat} {s : Tk} (h : TkAt w Bl Bm s) : In64 (nx s).1 := by
  obtain ⟨⟨v, _, hv, _⟩, _⟩ := h
  obtain ⟨l, m⟩ := s
  cases l with
  | nil => unfold nx; constructor <;> simp
  | cons x l => exact hv.1.1 x (by simp)
theorem tk_step {s s' : Tk} {z : Int} (h : (∀ y ∈ s.1, In64 y)) (e : nx s = (z, s')) : In64 z ∧ ∀ y ∈ s'.1, In64 y := by
  obtain ⟨l, m⟩ := s
  cases l with
  | nil =>
    unfold nx at e
    injection e with e1 e
    subst e1 e
    exact ⟨by constructor <;> simp, by simp⟩
  | cons x l =>
    unfold nx at e
    injection e with e1 e
    subst e1 e
    exact ⟨h _ (by simp), fun y hy => h y (by simp; right; exact hy)⟩
theorem TkAt.all {w : World} {Bl Bm : Nat} {s : Tk} (h : TkAt w Bl Bm s) : ∀ y ∈ s.1, In64 y := by
  obtain ⟨⟨v, _, hv, _⟩, _⟩ := h
  exact hv.1.1
theorem tk_three {w : World} {Bl Bm : Nat} {sa sb sc sd se : Tk} {z1 z2 z3 z4 : Int} (h : TkAt w Bl Bm sa) (e1 : nx sa = (z1, sb)) (e2 : nx sb = (z2, sc)) (e3 : nx sc = (z3, sd)) (e4 : nx sd = (z4, se)) : In64 z2 ∧ In64 z3 ∧ In64 z4 := by
  obtain ⟨_, h1⟩ := tk_step h.all e1
  obtain ⟨i2, h2⟩ := tk_step h1 e2
  obtain ⟨i3, h3⟩ := tk_step h2 e3
  exact ⟨i2, i3, (tk_step h3 e4).1⟩
theorem steps_len (n : Nat) (s : Tk) : (stepsN n s).1.length = n := by
  induction n with
  | zero => rfl
  | succ n ih => rw [stepsN]; simp [ih]
theorem nums_len (n : Nat) (s : Tk) : (numsN n s).1.length = n := by
  induction n with
  | zero => rfl
  | succ n ih => rw [numsN]; simp [ih]
theorem aft_len (n : Nat) (s : Tk) : (aftN n s).1.length = n := by
  induction n with
  | zero => rfl
  | succ n ih => rw [aftN]; simp [ih]

def RetPl (w : World) (Bl Bm : Nat) (s : Tk) (e : Ending) (w' : World) : Prop := ∃ vs va, e = .returned (.agg #[vs, va]) ∧ SlST w' vs (planN s).1.1 ∧ SlLT w' va (planN s).1.2 ∧ TkAt w' Bl Bm (planN s).2 ∧ Fx (TkS Bl Bm) w w'
def zeroP : Array Value := #[.slice none 0 0, .slice none 0 0]

set_option maxRecDepth 100000 in
set_option maxHeartbeats 2000000 in
theorem plan_c (w : World) (Bl Bm : Nat) (s : Tk) (h : TkAt w Bl Bm s) :
    Calls Tryz.prog 52 #[.func (.func 63) #[] #[.pointer (some ⟨Bl, 0, none⟩), .pointer (some ⟨Bm, 0, none⟩)]] w (RetPl w Bl Bm s) := by
  obtain ⟨W0, hW, bx, by', hsz, hb0⟩ := start2 w zeroP zeroP 27
  have h0 := h.after hb0
  have HLT := Lib.hid h.lt
  have T0 := Lib.hid h0
  have BX := Lib.hid bx
  have BY := Lib.hid by'
  have HB := Lib.hid hb0
  have HZ := Lib.hid hsz
  have hW' : W0 = (w.alloc (.cells #[.slice none 0 0, .slice none 0 0] 27)).alloc (.cells #[.slice none 0 0, .slice none 0 0] 27) := hW
  clear hW h h0 bx by' hb0 hsz
  have hW := hW'
  clear hW'
  obtain ⟨z, s1, hz⟩ : ∃ z s1, nx s = (z, s1) := ⟨_, _, rfl⟩
  have HNX := Lib.hid hz
  clear hz
  go_enter Tryz.func52, Tryz.ntmps52
  go_upto_region 2 with fail
  rw [← hW]
  clear hW
  go_wp2_with fail
  refine (next_c W0 Bl Bm s T0.out).mono ?_
  rintro e w1 ⟨rfl, hT1, hf1⟩
  rw [HNX.out] at hT1 ⊢
  simp only at hT1 ⊢
  have T1 := Lib.hid hT1
  have F1 := Lib.hid hf1
  have BX1 := Lib.hid (BX.out.fx hf1 (by rintro (e | e) <;> have := HLT.out <;> omega))
  have BY1 := Lib.hid (BY.out.fx hf1 (by rintro (e | e) <;> have := HLT.out <;> omega))
  have HZI : Hid (In64 z) := by
    obtain ⟨⟨v, _, hv, _⟩, _⟩ := T0.out
    obtain ⟨l, m⟩ := s
    cases l with
    | nil => have e := HNX.out; unfold nx at e; injection e with e _; subst e; constructor <;> omega
    | cons x l => have e := HNX.out; unfold nx at e; injection e with e _; subst e; exact hv.1.1 x (by simp)
  clear hT1 hf1
  by_cases hz12 : 12 < z
  · have px0 : w1.cell? ⟨w.heap.size, 0, none⟩ = some (.slice none 0 0) := BX1.out.cell 0
    have px1 : w1.cell? ⟨w.heap.size, 1, none⟩ = some (.slice none 0 0) := BX1.out.cell 1
    have py0 : w1.cell? ⟨w.heap.size + 1, 0, none⟩ = some (.slice none 0 0) := BY1.out.cell 0
    have py1 : w1.cell? ⟨w.heap.size + 1, 1, none⟩ = some (.slice none 0 0) := BY1.out.cell 1
    have fx0 := BX1.out.frozen 0
    have fx1 := BX1.out.frozen 1
    have lx := BX1.out.lt
    have ly := BY1.out.lt
    have HPL : Hid (planN s = (([], []), s1)) := by show _ = _; unfold planN; rw [HNX.out]; simp only; rw [if_pos hz12]
    go_wp2_with fail
    have hfs : Fx (fun g => g = w.heap.size) w1 ((w1.setCell ⟨w.heap.size, 0, none⟩ (.slice none 0 0)).setCell ⟨w.heap.size, 1, none⟩ (.slice none 0 0)) := (Fx.set w1 _ 0 _).trans (Fx.set _ _ 1 _)
    refine (show (∀ WE, Box WE w.heap.size #[.slice none 0 0, .slice none 0 0] 27 → Fx (fun g => g = w.heap.size) w1 WE → bodyPost Tryz.prog _ (RetPl w Bl Bm s) Exit.ret _ WE) → _ from fun H => H _ (by have := (BX1.out.set 0 (.slice none 0 0)).set 1 (.slice none 0 0); simpa [zeroP] using this) hfs) ?_
    clear hfs
    intro WE HE hfs
    have z0 := HE.cell 0
    have z1 := HE.cell 1
    refine bodyPost_ret (v := .agg #[.slice none 0 0, .slice none 0 0]) (by simp [results, Tryz.results52, go_sem, z0, z1]) rfl ?_
    refine ⟨_, _, rfl, ?_, ?_, ?_, ?_⟩
    · rw [HPL.out]; exact SlST.nil _
    · rw [HPL.out]; exact SlLT.nil _
    · rw [HPL.out]
      exact T1.out.fx hfs (fun e => by have := HLT.out; omega) (fun e => by have := HLT.out; omega) (fun b e k => by subst e; cases k.one BX1.out.tag)
    · exact ((Fx.of_below HB.out).trans F1.out).new hfs (fun b e => .inr (by omega))
  have HZ12 : Hid (z ≤ 12) := by show _ ≤ _; omega
  obtain ⟨n, hn⟩ : ∃ n : Nat, z.toNat = n := ⟨_, rfl⟩
  have hn12 : n ≤ 12 := by omega
  have HN := Lib.hid hn
  clear hn
  have lt1 := BY1.out.lt
  have hlt13 : decide (12 < z) = false := decide_eq_false hz12
  go_wp2_with fail
  go_loopg [12] n (fun g t wx => ∃ (i : Nat) (vs : Value), i ≤ n ∧ g = n - i ∧ t = .int .i64 (i : Int) ∧ Hid (TkAt wx Bl Bm (stepsN i s1).2) ∧ Hid (OwnS wx W0.heap.size vs (stepsN i s1).1) ∧ Hid (Box wx (w.heap.size + 1) #[vs, .slice none 0 0] 27) ∧ Hid (Fx (fun b => TkS Bl Bm b ∨ b = w.heap.size + 1) W0 wx))
  case atStart => exact ⟨0, .slice none 0 0, Nat.zero_le _, rfl, rfl, T1.out, ⟨by simp [stepsN], OwnC.nil _ _ _ _⟩, BY1.out, F1.out.mono (fun _ e => .inl e)⟩
  case round =>
    obtain ⟨i, vs, hi, rfl, rfl, hT, hO, hBX, hF⟩ := hrel
    by_cases hlt : i < n
    · have hiz : (i : Int) < z := by have := HN.out; omega
      obtain ⟨sa, hsa⟩ : ∃ sa, (stepsN i s1).2 = sa := ⟨_, rfl⟩
      obtain ⟨L, hL⟩ : ∃ L, (stepsN i s1).1 = L := ⟨_, rfl⟩
      have HSA := Lib.hid hsa
      have HL := Lib.hid hL
      rw [hsa] at hT
      rw [hL] at hO
      have HLL : Hid (L.length ≤ 1000000) := by show _ ≤ _; rw [← HL.out, steps_len]; omega
      obtain ⟨z1, sb, e1⟩ : ∃ z1 sb, nx sa = (z1, sb) := ⟨_, _, rfl⟩
      obtain ⟨z2, sc, e2⟩ : ∃ z2 sc, nx sb = (z2, sc) := ⟨_, _, rfl⟩
      obtain ⟨z3, sd, e3⟩ : ∃ z3 sd, nx sc = (z3, sd) := ⟨_, _, rfl⟩
      obtain ⟨z4, se, e4⟩ : ∃ z4 se, nx sd = (z4, se) := ⟨_, _, rfl⟩
      obtain ⟨kd, hkd⟩ : ∃ kd : Nat, (z1 % 256).toNat = kd := ⟨_, rfl⟩
      have HK : Hid (IntKind.u8.wrap z1 = (kd : Int)) := by show _ = _; rw [wrap_8]; omega
      have HK2 : Hid (kd < 256) := by show _ < _; omega
      have E1 := Lib.hid e1
      have E2 := Lib.hid e2
      have E3 := Lib.hid e3
      have E4 := Lib.hid e4
      have HKD := Lib.hid hkd
      have HP : Hid (w.heap.size + 1 ≠ Bl ∧ w.heap.size + 1 ≠ Bm) := by have := HLT.out; exact ⟨by omega, by omega⟩
      have HSTP : Hid (stepsN (i + 1) s1 = (L ++ [⟨kd, z2, z3, z4⟩], se)) := by
        show _ = _
        rw [stepsN, HSA.out, HL.out, E1.out]
        dsimp only
        rw [E2.out]
        dsimp only
        rw [E3.out]
        dsimp only
        rw [E4.out, HKD.out]
      have HIN : Hid (In64 z2 ∧ In64 z3 ∧ In64 z4) := tk_three hT.out E1.out E2.out E3.out E4.out
      have HXK : Hid (StpOk ⟨kd, z2, z3, z4⟩) := ⟨HK2.out, HIN.out.1, HIN.out.2.1, HIN.out.2.2⟩
      have hbz := hF.out.size
      clear hsa hL e1 e2 e3 e4 hkd
      go_upto_region 7 with fail
      refine wp_region_gj (J := GJ _ (SP W0.heap.size (fun κ => match κ with | 0 => .eq (.pointer (some ⟨(w.heap.size + 1), 0, none⟩)) | 1 => .eq (vs) | 2 => .eq (.func (.func 63) #[] #[.pointer (some ⟨Bl, 0, none⟩), .pointer (some ⟨Bm, 0, none⟩)]) | 3 => .eq (.int .i64 z1) | 4 => .eq (.int .u8 (kd : Int)) | 5 => .eq (.func (.func 63) #[] #[.pointer (some ⟨Bl, 0, none⟩), .pointer (some ⟨Bm, 0, none⟩)]) | 6 => .eq (.int .i64 z2) | 7 => .eq (.func (.func 63) #[] #[.pointer (some ⟨Bl, 0, none⟩), .pointer (some ⟨Bm, 0, none⟩)]) | 8 => .eq (.int .i64 z3) | 9 => .eq (.func (.func 63) #[] #[.pointer (some ⟨Bl, 0, none⟩), .pointer (some ⟨Bm, 0, none⟩)]) | 10 => .eq (.int .i64 z4) | 11 => .eq (.agg #[.int .u8 (kd : Int), .int .i64 z2, .int .i64 z3, .int .i64 z4]) | 12 => .lit ([.int .u8 (kd : Int), .int .i64 z2, .int .i64 z3, .int .i64 z4]) | 13 => .own (L ++ [⟨kd, z2, z3, z4⟩]) | 14 => .eq (.pointer (some ⟨(w.heap.size + 1), 0, none⟩)) | _ => .any)) (CP W0 Bl Bm (w.heap.size + 1) vs (.slice none 0 0) L ⟨kd, z2, z3, z4⟩ sa sb sc sd se) _) (by kernel_rfl) ?_ ?_ (GJ.start (CP.start hF.out hT.out hO.out hBX.out))
      · intro listed a w9 i hr hj
        obtain ⟨hi12, hun, _, _, _⟩ := ready_mem hr
        have h12 : i ∈ List.range 16 := List.mem_range.2 hi12
        simp only [List.range, List.range.loop, List.mem_cons, List.not_mem_nil, or_false] at h12
        obtain ⟨f, rfl, hcm, hf⟩ := hj.opened [14, 15, 16, 17, 18, 19, 20, 21, 22, 23, 24, 25, 26, 27, 28] (by kernel_rfl)
        replace hcm : CP W0 Bl Bm (w.heap.size + 1) vs (.slice none 0 0) L ⟨kd, z2, z3, z4⟩ sa sb sc sd se listed f w9 := hcm
        have hlsz : listed.size = 16 := hj.lsize
        rcases h12 with rfl | rfl | rfl | rfl | rfl | rfl | rfl | rfl | rfl | rfl | rfl | rfl | rfl | rfl | rfl | rfl
        · have n15 : ¬ up listed 15 := fun h => not_up hun (hj.closed 15 0 h (by kernel_rfl))
          have klt := (hcm.box n15).lt
          refine GJ.op hj (by kernel_rfl) hr rfl [14, 15, 16, 17, 18, 19, 20, 21, 22, 23, 24, 25, 26, 27, 28] (by kernel_rfl) (fun K hK => ?_)
          simp only [Act.put, List.foldl_cons, List.foldl_nil, List.setIfInBounds_toArray, List.set_cons_zero, List.set_cons_succ] at hK ⊢
          clear hj hf
          go_simp
          exact hK _ _ (fun k v _ _ h => h.keep (Below.refl _ _)) (fun t ht => SP.of (.eq (.pointer (some ⟨(w.heap.size + 1), 0, none⟩))) rfl rfl) (hcm.keep (by decide) (by decide) (by decide) (by decide) (by decide) (by decide) (Below.refl _ _))
        · have e1 : f 14 = .pointer (some ⟨(w.heap.size + 1), 0, none⟩) := hf 0 _ _ rfl rfl (up_dep hr (by kernel_rfl))
          have n15 : ¬ up listed 15 := fun h => not_up hun (hj.closed 15 1 h (by kernel_rfl))
          have kx : w9.cell? ⟨(w.heap.size + 1), 0, none⟩ = some vs := (hcm.box n15).cell 0
          have klt := (hcm.box n15).lt
          refine GJ.op hj (by kernel_rfl) hr rfl [14, 15, 16, 17, 18, 19, 20, 21, 22, 23, 24, 25, 26, 27, 28] (by kernel_rfl) (fun K hK => ?_)
          simp only [Act.put, List.foldl_cons, List.foldl_nil, List.setIfInBounds_toArray, List.set_cons_zero, List.set_cons_succ] at hK ⊢
          clear hj hf
          rw [e1] at hK ⊢
          clear e1
          go_simp
          exact hK _ _ (fun k v _ _ h => h.keep (Below.refl _ _)) (fun t ht => SP.of (.eq (vs)) rfl rfl) (hcm.keep (by decide) (by decide) (by decide) (by decide) (by decide) (by decide) (Below.refl _ _))
        · refine GJ.op hj (by kernel_rfl) hr rfl [14, 15, 16, 17, 18, 19, 20, 21, 22, 23, 24, 25, 26, 27, 28] (by kernel_rfl) (fun K hK => ?_)
          simp only [Act.put, List.foldl_cons, List.foldl_nil, List.setIfInBounds_toArray, List.set_cons_zero, List.set_cons_succ] at hK ⊢
          clear hj hf
          go_simp
          exact hK _ _ (fun k v _ _ h => h.keep (Below.refl _ _)) (fun t ht => SP.of (.eq (.func (.func 63) #[] #[.pointer (some ⟨Bl, 0, none⟩), .pointer (some ⟨Bm, 0, none⟩)])) rfl rfl) (hcm.keep (by decide) (by decide) (by decide) (by decide) (by decide) (by decide) (Below.refl _ _))
        · have e1 : f 16 = .func (.func 63) #[] #[.pointer (some ⟨Bl, 0, none⟩), .pointer (some ⟨Bm, 0, none⟩)] := hf 2 _ _ rfl rfl (up_dep hr (by kernel_rfl))
          have n13 : ¬ up listed 13 := fun h => not_up hun (hj.closed 6 3 (hj.closed 8 6 (hj.closed 10 8 (hj.closed 13 10 h (by kernel_rfl)) (by kernel_rfl)) (by kernel_rfl)) (by kernel_rfl))
          have n15 : ¬ up listed 15 := fun h => n13 (hj.closed 15 13 h (by kernel_rfl))
          have n6 : ¬ up listed 6 := fun h => not_up hun (hj.closed 6 3 h (by kernel_rfl))
          have n8 : ¬ up listed 8 := fun h => not_up hun (hj.closed 6 3 (hj.closed 8 6 h (by kernel_rfl)) (by kernel_rfl))
          have n10 : ¬ up listed 10 := fun h => not_up hun (hj.closed 6 3 (hj.closed 8 6 (hj.closed 10 8 h (by kernel_rfl)) (by kernel_rfl)) (by kernel_rfl))
          have hT : TkAt w9 Bl Bm sa := hcm.tk.t0 (not_up hun)
          have HT := Lib.hid hT
          have HCM := Lib.hid hcm
          clear hcm hT
          refine GJ.op hj (by kernel_rfl) hr rfl [14, 15, 16, 17, 18, 19, 20, 21, 22, 23, 24, 25, 26, 27, 28] (by kernel_rfl) (fun K hK => ?_)
          simp only [Act.put, List.foldl_cons, List.foldl_nil, List.setIfInBounds_toArray, List.set_cons_zero, List.set_cons_succ] at hK ⊢
          clear hj hf
          rw [e1] at hK ⊢
          clear e1
          go_simp
          refine (next_c w9 Bl Bm sa HT.out).mono ?_
          rintro e w11 ⟨rfl, hT1, hf1⟩
          rw [E1.out] at hT1 ⊢
          dsimp only at hT1 ⊢
          exact hK _ _ (fun k v _ _ h => h.fx hf1 (HT.out.tagged (by decide) (by decide))) (fun t ht => SP.of (.eq (.int .i64 z1)) rfl rfl) (HCM.out.call (by decide) (by decide) n13 n15 HP.out hf1 (HT.out.tagged (by decide) (by decide)) (TkC.do3 (by rw [hlsz]; decide) n6 n8 n10 hT1))
        · have e1 : f 17 = .int .i64 z1 := hf 3 _ _ rfl rfl (up_dep hr (by kernel_rfl))
          have hwk := HK.out
          refine GJ.op hj (by kernel_rfl) hr rfl [14, 15, 16, 17, 18, 19, 20, 21, 22, 23, 24, 25, 26, 27, 28] (by kernel_rfl) (fun K hK => ?_)
          simp only [Act.put, List.foldl_cons, List.foldl_nil, List.setIfInBounds_toArray, List.set_cons_zero, List.set_cons_succ] at hK ⊢
          clear hj hf
          rw [e1] at hK ⊢
          clear e1
          go_simp
          exact hK _ _ (fun k v _ _ h => h.keep (Below.refl _ _)) (fun t ht => SP.of (.eq (.int .u8 (kd : Int))) rfl rfl) (hcm.keep (by decide) (by decide) (by decide) (by decide) (by decide) (by decide) (Below.refl _ _))
        · refine GJ.op hj (by kernel_rfl) hr rfl [14, 15, 16, 17, 18, 19, 20, 21, 22, 23, 24, 25, 26, 27, 28] (by kernel_rfl) (fun K hK => ?_)
          simp only [Act.put, List.foldl_cons, List.foldl_nil, List.setIfInBounds_toArray, List.set_cons_zero, List.set_cons_succ] at hK ⊢
          clear hj hf
          go_simp
          exact hK _ _ (fun k v _ _ h => h.keep (Below.refl _ _)) (fun t ht => SP.of (.eq (.func (.func 63) #[] #[.pointer (some ⟨Bl, 0, none⟩), .pointer (some ⟨Bm, 0, none⟩)])) rfl rfl) (hcm.keep (by decide) (by decide) (by decide) (by decide) (by decide) (by decide) (Below.refl _ _))
        · have e1 : f 19 = .func (.func 63) #[] #[.pointer (some ⟨Bl, 0, none⟩), .pointer (some ⟨Bm, 0, none⟩)] := hf 5 _ _ rfl rfl (up_dep hr (by kernel_rfl))
          have n13 : ¬ up listed 13 := fun h => not_up hun (hj.closed 8 6 (hj.closed 10 8 (hj.closed 13 10 h (by kernel_rfl)) (by kernel_rfl)) (by kernel_rfl))
          have n15 : ¬ up listed 15 := fun h => n13 (hj.closed 15 13 h (by kernel_rfl))
          have n8 : ¬ up listed 8 := fun h => not_up hun (hj.closed 8 6 h (by kernel_rfl))
          have n10 : ¬ up listed 10 := fun h => not_up hun (hj.closed 8 6 (hj.closed 10 8 h (by kernel_rfl)) (by kernel_rfl))
          have u3 : up listed 3 := up_dep hr (by kernel_rfl)
          have hT : TkAt w9 Bl Bm sb := hcm.tk.t1 (up_dep hr (by kernel_rfl)) (not_up hun)
          have HT := Lib.hid hT
          have HCM := Lib.hid hcm
          clear hcm hT
          refine GJ.op hj (by kernel_rfl) hr rfl [14, 15, 16, 17, 18, 19, 20, 21, 22, 23, 24, 25, 26, 27, 28] (by kernel_rfl) (fun K hK => ?_)
          simp only [Act.put, List.foldl_cons, List.foldl_nil, List.setIfInBounds_toArray, List.set_cons_zero, List.set_cons_succ] at hK ⊢
          clear hj hf
          rw [e1] at hK ⊢
          clear e1
          go_simp
          refine (next_c w9 Bl Bm sb HT.out).mono ?_
          rintro e w11 ⟨rfl, hT1, hf1⟩
          rw [E2.out] at hT1 ⊢
          dsimp only at hT1 ⊢
          exact hK _ _ (fun k v _ _ h => h.fx hf1 (HT.out.tagged (by decide) (by decide))) (fun t ht => SP.of (.eq (.int .i64 z2)) rfl rfl) (HCM.out.call (by decide) (by decide) n13 n15 HP.out hf1 (HT.out.tagged (by decide) (by decide)) (TkC.do6 (by rw [hlsz]; decide) u3 n8 n10 hT1))
        · refine GJ.op hj (by kernel_rfl) hr rfl [14, 15, 16, 17, 18, 19, 20, 21, 22, 23, 24, 25, 26, 27, 28] (by kernel_rfl) (fun K hK => ?_)
          simp only [Act.put, List.foldl_cons, List.foldl_nil, List.setIfInBounds_toArray, List.set_cons_zero, List.set_cons_succ] at hK ⊢
          clear hj hf
          go_simp
          exact hK _ _ (fun k v _ _ h => h.keep (Below.refl _ _)) (fun t ht => SP.of (.eq (.func (.func 63) #[] #[.pointer (some ⟨Bl, 0, none⟩), .pointer (some ⟨Bm, 0, none⟩)])) rfl rfl) (hcm.keep (by decide) (by decide) (by decide) (by decide) (by decide) (by decide) (Below.refl _ _))
        · have e1 : f 21 = .func (.func 63) #[] #[.pointer (some ⟨Bl, 0, none⟩), .pointer (some ⟨Bm, 0, none⟩)] := hf 7 _ _ rfl rfl (up_dep hr (by kernel_rfl))
          have n13 : ¬ up listed 13 := fun h => not_up hun (hj.closed 10 8 (hj.closed 13 10 h (by kernel_rfl)) (by kernel_rfl))
          have n15 : ¬ up listed 15 := fun h => n13 (hj.closed 15 13 h (by kernel_rfl))
          have n10 : ¬ up listed 10 := fun h => not_up hun (hj.closed 10 8 h (by kernel_rfl))
          have u3 : up listed 3 := hj.closed 6 3 (up_dep hr (by kernel_rfl)) (by kernel_rfl)
          have u6 : up listed 6 := up_dep hr (by kernel_rfl)
          have hT : TkAt w9 Bl Bm sc := hcm.tk.t2 (up_dep hr (by kernel_rfl)) (not_up hun)
          have HT := Lib.hid hT
          have HCM := Lib.hid hcm
          clear hcm hT
          refine GJ.op hj (by kernel_rfl) hr rfl [14, 15, 16, 17, 18, 19, 20, 21, 22, 23, 24, 25, 26, 27, 28] (by kernel_rfl) (fun K hK => ?_)
          simp only [Act.put, List.foldl_cons, List.foldl_nil, List.setIfInBounds_toArray, List.set_cons_zero, List.set_cons_succ] at hK ⊢
          clear hj hf
          rw [e1] at hK ⊢
          clear e1
          go_simp
          refine (next_c w9 Bl Bm sc HT.out).mono ?_
          rintro e w11 ⟨rfl, hT1, hf1⟩
          rw [E3.out] at hT1 ⊢
          dsimp only at hT1 ⊢
          exact hK _ _ (fun k v _ _ h => h.fx hf1 (HT.out.tagged (by decide) (by decide))) (fun t ht => SP.of (.eq (.int .i64 z3)) rfl rfl) (HCM.out.call (by decide) (by decide) n13 n15 HP.out hf1 (HT.out.tagged (by decide) (by decide)) (TkC.do8 (by rw [hlsz]; decide) u3 u6 n10 hT1))
        · refine GJ.op hj (by kernel_rfl) hr rfl [14, 15, 16, 17, 18, 19, 20, 21, 22, 23, 24, 25, 26, 27, 28] (by kernel_rfl) (fun K hK => ?_)
          simp only [Act.put, List.foldl_cons, List.foldl_nil, List.setIfInBounds_toArray, List.set_cons_zero, List.set_cons_succ] at hK ⊢
          clear hj hf
          go_simp
          exact hK _ _ (fun k v _ _ h => h.keep (Below.refl _ _)) (fun t ht => SP.of (.eq (.func (.func 63) #[] #[.pointer (some ⟨Bl, 0, none⟩), .pointer (some ⟨Bm, 0, none⟩)])) rfl rfl) (hcm.keep (by decide) (by decide) (by decide) (by decide) (by decide) (by decide) (Below.refl _ _))
        · have e1 : f 23 = .func (.func 63) #[] #[.pointer (some ⟨Bl, 0, none⟩), .pointer (some ⟨Bm, 0, none⟩)] := hf 9 _ _ rfl rfl (up_dep hr (by kernel_rfl))
          have n13 : ¬ up listed 13 := fun h => not_up hun (hj.closed 13 10 h (by kernel_rfl))
          have n15 : ¬ up listed 15 := fun h => n13 (hj.closed 15 13 h (by kernel_rfl))
          have u3 : up listed 3 := hj.closed 6 3 (hj.closed 8 6 (up_dep hr (by kernel_rfl)) (by kernel_rfl)) (by kernel_rfl)
          have u6 : up listed 6 := hj.closed 8 6 (up_dep hr (by kernel_rfl)) (by kernel_rfl)
          have u8 : up listed 8 := up_dep hr (by kernel_rfl)
          have hT : TkAt w9 Bl Bm sd := hcm.tk.t3 (up_dep hr (by kernel_rfl)) (not_up hun)
          have HT := Lib.hid hT
          have HCM := Lib.hid hcm
          clear hcm hT
          refine GJ.op hj (by kernel_rfl) hr rfl [14, 15, 16, 17, 18, 19, 20, 21, 22, 23, 24, 25, 26, 27, 28] (by kernel_rfl) (fun K hK => ?_)
          simp only [Act.put, List.foldl_cons, List.foldl_nil, List.setIfInBounds_toArray, List.set_cons_zero, List.set_cons_succ] at hK ⊢
          clear hj hf
          rw [e1] at hK ⊢
          clear e1
          go_simp
          refine (next_c w9 Bl Bm sd HT.out).mono ?_
          rintro e w11 ⟨rfl, hT1, hf1⟩
          rw [E4.out] at hT1 ⊢
          dsimp only at hT1 ⊢
          exact hK _ _ (fun k v _ _ h => h.fx hf1 (HT.out.tagged (by decide) (by decide))) (fun t ht => SP.of (.eq (.int .i64 z4)) rfl rfl) (HCM.out.call (by decide) (by decide) n13 n15 HP.out hf1 (HT.out.tagged (by decide) (by decide)) (TkC.do10 (by rw [hlsz]; decide) u3 u6 u8 hT1))
        · have e1 : f 18 = .int .u8 (kd : Int) := hf 4 _ _ rfl rfl (up_dep hr (by kernel_rfl))
          have e2 : f 20 = .int .i64 z2 := hf 6 _ _ rfl rfl (up_dep hr (by kernel_rfl))
          have e3 : f 22 = .int .i64 z3 := hf 8 _ _ rfl rfl (up_dep hr (by kernel_rfl))
          have e4 : f 24 = .int .i64 z4 := hf 10 _ _ rfl rfl (up_dep hr (by kernel_rfl))
          refine GJ.op hj (by kernel_rfl) hr rfl [14, 15, 16, 17, 18, 19, 20, 21, 22, 23, 24, 25, 26, 27, 28] (by kernel_rfl) (fun K hK => ?_)
          simp only [Act.put, List.foldl_cons, List.foldl_nil, List.setIfInBounds_toArray, List.set_cons_zero, List.set_cons_succ] at hK ⊢
          clear hj hf
          rw [e1, e2, e3, e4] at hK ⊢
          clear e1 e2 e3 e4
          go_simp
          exact hK _ _ (fun k v _ _ h => h.keep (Below.refl _ _)) (fun t ht => SP.of (.eq (.agg #[.int .u8 (kd : Int), .int .i64 z2, .int .i64 z3, .int .i64 z4])) rfl rfl) (hcm.keep (by decide) (by decide) (by decide) (by decide) (by decide) (by decide) (Below.refl _ _))
        · have e1 : f 25 = .agg #[.int .u8 (kd : Int), .int .i64 z2, .int .i64 z3, .int .i64 z4] := hf 11 _ _ rfl rfl (up_dep hr (by kernel_rfl))
          have HCM := Lib.hid hcm
          clear hcm
          refine GJ.op hj (by kernel_rfl) hr rfl [14, 15, 16, 17, 18, 19, 20, 21, 22, 23, 24, 25, 26, 27, 28] (by kernel_rfl) (fun K hK => ?_)
          simp only [Act.put, List.foldl_cons, List.foldl_nil, List.setIfInBounds_toArray, List.set_cons_zero, List.set_cons_succ] at hK ⊢
          clear hj hf
          rw [e1] at hK ⊢
          clear e1
          go_simp
          exact hK _ _ (fun k v _ _ h => h.keep (held_alloc (Below.refl _ _))) (fun t ht => SP.of (.lit [.int .u8 (kd : Int), .int .i64 z2, .int .i64 z3, .int .i64 z4]) rfl (fun _ => ⟨_, rfl, Box.new _ _ _⟩)) (HCM.out.keep (by decide) (by decide) (by decide) (by decide) (by decide) (by decide) (held_alloc (Below.refl _ _)))
        · have e1 : f 15 = vs := hf 1 _ _ rfl rfl (up_dep hr (by kernel_rfl))
          have s2 : KP.holds W0.heap.size listed 12 (.lit ([.int .u8 (kd : Int), .int .i64 z2, .int .i64 z3, .int .i64 z4])) (f 26) w9 := hf 12 _ _ rfl rfl (up_dep hr (by kernel_rfl))
          have n13 := not_up hun
          have n15 : ¬ up listed 15 := fun h => n13 (hj.closed 15 13 h (by kernel_rfl))
          obtain ⟨bl, e2, hbl⟩ := s2 n13
          have HCM := Lib.hid hcm
          clear hcm
          refine GJ.op hj (by kernel_rfl) hr rfl [14, 15, 16, 17, 18, 19, 20, 21, 22, 23, 24, 25, 26, 27, 28] (by kernel_rfl) (fun K hK => ?_)
          simp only [Act.put, List.foldl_cons, List.foldl_nil, List.setIfInBounds_toArray, List.set_cons_zero, List.set_cons_succ] at hK ⊢
          clear hj hf
          rw [e1] at hK ⊢
          clear e1
          rw [e2] at hK ⊢
          clear e2 s2
          have hbase := HCM.out.fx.size
          refine step_appC ?q3 (.tmp 15) (.tmp 26) 24 ?q4 W0.heap.size 53 4 32 _ Tryz.underlying24 infoStp rfl (by decide) (by decide) vs (L.map stpV) [.int .u8 (kd : Int), .int .i64 z2, .int .i64 z3, .int .i64 z4] ?q1 (HCM.out.own n13).2 rfl (by simp [Value.oneCell']) ⟨bl, 0, none⟩ 1 ?q2 hbl.news (by rw [List.length_map]; exact HLL.out) hbase ?_
          case q1 => rfl
          case q2 => rfl
          case q3 => rfl
          case q4 => rfl
          intro v11 w11 hown11 hf11
          exact hK _ _ (fun k v hne _ h => h.app hne (by rw [hlsz]; decide)) (fun t ht => SP.of (.own (L ++ [⟨kd, z2, z3, z4⟩])) rfl (fun _ => OwnS.push (x := ⟨kd, z2, z3, z4⟩) (HCM.out.own n13).1 HXK.out hown11)) (HCM.out.app (by rw [hlsz]; decide) n13 n15 hf11)
        · have n15 : ¬ up listed 15 := fun h => not_up hun (hj.closed 15 14 h (by kernel_rfl))
          have klt := (hcm.box n15).lt
          refine GJ.op hj (by kernel_rfl) hr rfl [14, 15, 16, 17, 18, 19, 20, 21, 22, 23, 24, 25, 26, 27, 28] (by kernel_rfl) (fun K hK => ?_)
          simp only [Act.put, List.foldl_cons, List.foldl_nil, List.setIfInBounds_toArray, List.set_cons_zero, List.set_cons_succ] at hK ⊢
          clear hj hf
          go_simp
          exact hK _ _ (fun k v _ _ h => h.keep (Below.refl _ _)) (fun t ht => SP.of (.eq (.pointer (some ⟨(w.heap.size + 1), 0, none⟩))) rfl rfl) (hcm.keep (by decide) (by decide) (by decide) (by decide) (by decide) (by decide) (Below.refl _ _))
        · have e1 : f 28 = .pointer (some ⟨(w.heap.size + 1), 0, none⟩) := hf 14 _ _ rfl rfl (up_dep hr (by kernel_rfl))
          have s2 : KP.holds W0.heap.size listed 13 (.own (L ++ [⟨kd, z2, z3, z4⟩])) (f 27) w9 := hf 13 _ _ rfl rfl (up_dep hr (by kernel_rfl))
          have n15 := not_up hun
          have hbx := hcm.box n15
          have HCM := Lib.hid hcm
          clear hcm
          have HO := Lib.hid (s2 rfl)
          obtain ⟨pz, cz, ez, _⟩ := HO.out.2.shape
          obtain ⟨lz, hlz⟩ : ∃ lz, (List.map stpV (L ++ [⟨kd, z2, z3, z4⟩])).length = lz := ⟨_, rfl⟩
          rw [hlz] at ez
          clear s2 hlz
          refine GJ.op hj (by kernel_rfl) hr rfl [14, 15, 16, 17, 18, 19, 20, 21, 22, 23, 24, 25, 26, 27, 28] (by kernel_rfl) (fun K hK => ?_)
          simp only [Act.put, List.foldl_cons, List.foldl_nil, List.setIfInBounds_toArray, List.set_cons_zero, List.set_cons_succ] at hK ⊢
          clear hj hf
          rw [e1] at hK ⊢
          clear e1
          obtain ⟨zb, hzb⟩ : ∃ z, f 27 = z := ⟨_, rfl⟩
          rw [hzb] at hK HO ez ⊢
          subst ez
          clear hzb
          have y0 : w9.cell? ⟨(w.heap.size + 1), 0, none⟩ = some vs := hbx.cell 0
          have g0 := hbx.frozen 0
          have yl := hbx.lt
          have HBX := Lib.hid hbx
          clear hbx
          go_simp
          exact hK undef _ (fun k v _ _ h => h.fx (Fx.set w9 (w.heap.size + 1) 0 _) (fun b e k => by subst e; cases k.one HBX.out.tag)) (fun t ht => by cases ht) (HCM.out.put (by rw [hlsz]; decide) HP.out n15 HO.out)
      · intro listed a w10 hr hj
        have hu : ∀ k, k < 16 → up listed k := fun k hk => all_up (by kernel_rfl) hj.lsize hr k hk
        obtain ⟨f, rfl, hcm, hf⟩ := hj.opened [14, 15, 16, 17, 18, 19, 20, 21, 22, 23, 24, 25, 26, 27, 28] (by kernel_rfl)
        replace hcm : CP W0 Bl Bm (w.heap.size + 1) vs (.slice none 0 0) L ⟨kd, z2, z3, z4⟩ sa sb sc sd se listed f w10 := hcm
        obtain ⟨v15, ho15, hb15⟩ := hcm.new (hu 15 (by omega))
        have HO15 := Lib.hid ho15
        have HB15 := Lib.hid hb15
        have HT4 := Lib.hid (hcm.tk.t4 (hu 10 (by omega)))
        have HF15 := Lib.hid hcm.fx
        clear hf hj hr hu hcm ho15 hb15 hT hO hBX hF
        simp only [List.foldl_cons, List.foldl_nil, List.setIfInBounds_toArray, List.set_cons_zero, List.set_cons_succ]
        generalize f 14 = g14
        generalize f 15 = g15
        generalize f 16 = g16
        generalize f 17 = g17
        generalize f 18 = g18
        generalize f 19 = g19
        generalize f 20 = g20
        generalize f 21 = g21
        generalize f 22 = g22
        generalize f 23 = g23
        generalize f 24 = g24
        generalize f 25 = g25
        generalize f 26 = g26
        generalize f 27 = g27
        generalize f 28 = g28
        clear f
        go_wp2_with fail
        go_roundg (n - (i + 1))
        case measure => omega
        case rel => exact ⟨i + 1, v15, by omega, rfl, by go_num, by rw [HSTP.out]; exact HT4.out, by rw [HSTP.out]; exact HO15.out, HB15.out, HF15.out⟩
    · obtain rfl : i = n := by omega
      have hiz : ¬ (i : Int) < z := by have := HN.out; omega
      obtain ⟨sA, hsA⟩ : ∃ sA, (stepsN i s1).2 = sA := ⟨_, rfl⟩
      obtain ⟨S1, hS1⟩ : ∃ S1, (stepsN i s1).1 = S1 := ⟨_, rfl⟩
      rw [hsA] at hT
      rw [hS1] at hO
      have HPL : Hid (planN s = ((S1, (aftN i sA).1), (aftN i sA).2)) := by
        show _ = _
        unfold planN
        rw [HNX.out]
        dsimp only
        rw [if_neg (Int.not_lt.2 HZ12.out), HN.out, hsA, hS1]
      have HS := Lib.hid hO.out.slT
      have hbz := hF.out.size
      clear hsA hS1 hO
      have hiz2 : decide ((i : Int) < z) = false := decide_eq_false hiz
      clear hiz
      go_wp2_with fail
      go_loopg [31] i (fun g t wx => ∃ (j : Nat) (va : Value), j ≤ i ∧ g = i - j ∧ t = .int .i64 (j : Int) ∧ Hid (TkAt wx Bl Bm (aftN j sA).2) ∧ Hid (OwnL wx W0.heap.size va (aftN j sA).1) ∧ Hid (SlST wx vs S1) ∧ Hid (Box wx (w.heap.size + 1) #[vs, va] 27) ∧ Hid (Fx (fun b => TkS Bl Bm b ∨ b = w.heap.size + 1) W0 wx))
      case atStart => exact ⟨0, .slice none 0 0, Nat.zero_le _, rfl, rfl, hT.out, ⟨[], rfl, OwnC.nil _ _ _ _, fun i hi => by simp [aftN] at hi⟩, HS.out, hBX.out, hF.out⟩
      case round =>
        clear hT HS hBX hF hbz
        obtain ⟨j, va, hj, rfl, rfl, hT, hL, HS, hBX, hF⟩ := hrel
        have hbz := hF.out.size
        by_cases hlt : j < i
        · have hjz : (j : Int) < z := by have := HN.out; omega
          obtain ⟨sa, hsa⟩ : ∃ sa, (aftN j sA).2 = sa := ⟨_, rfl⟩
          obtain ⟨LL, hLL⟩ : ∃ LL, (aftN j sA).1 = LL := ⟨_, rfl⟩
          have HLL : Hid (LL.length ≤ 1000000) := by show _ ≤ _; rw [← hLL, aft_len]; omega
          rw [hsa] at hT
          rw [hLL] at hL
          obtain ⟨z1, sb, e1⟩ : ∃ z1 sb, nx sa = (z1, sb) := ⟨_, _, rfl⟩
          have E1 := Lib.hid e1
          have HZ1 : Hid (In64 z1) := (tk_step hT.out.all e1).1
          obtain ⟨c, hc⟩ : ∃ c, cnt z1 = c := ⟨_, rfl⟩
          have HAFT : Hid (aftN (j + 1) sA = (LL ++ [(numsN c sb).1], (numsN c sb).2)) := by
            show _ = _
            rw [aftN, hsa, hLL, E1.out]
            dsimp only
            rw [hc]
          have HC : Hid (c = (min z1 13).toNat) := by show _ = _; rw [← hc]; rfl
          have hc13 : c ≤ 13 := by have := HC.out; omega
          clear hsa hLL e1 hc
          go_wp2_with fail
          refine (next_c wr Bl Bm sa hT.out).mono ?_
          rintro e w2 ⟨rfl, hT2, hf2⟩
          rw [E1.out] at hT2 ⊢
          dsimp only at hT2 ⊢
          have T2 := Lib.hid hT2
          have F2 : Hid (Fx (fun b => TkS Bl Bm b ∨ b = w.heap.size + 1) W0 w2) := hF.out.trans (hf2.mono (fun _ e => .inl e))
          have HLT2 : Hid (Bl < w2.heap.size ∧ Bm < w2.heap.size ∧ w.heap.size + 1 < w2.heap.size) := by
            have h1 := hT2.lt
            have h2 := hBX.out.lt
            have h3 := hf2.size
            exact ⟨h1.1, h1.2, by omega⟩
          have BX2 : Hid (Box w2 (w.heap.size + 1) #[vs, va] 27) := hBX.out.fx hf2 (by rintro (e | e) <;> have := HLT.out <;> omega)
          have S2 : Hid (SlST w2 vs S1) := HS.out.fx hf2 (hT.out.tagged (by decide) (by decide))
          have L2 : Hid (OwnL w2 W0.heap.size va LL) := hL.out.fx hf2 (fun b e h => by
            have h1 := HLT.out
            have h2 := HB.out.size
            rcases e with e | e <;> omega) (hT.out.tagged (by decide) (by decide))
          have hbz2 := F2.out.size
          have lp := HLT2.out.2.2
          clear hT2 hf2 hT hF hBX HS hL
          have hcc : Hid (c = (min z1 13).toNat) := HC.out
          clear HC
          by_cases hz13 : z1 ≤ 13
          · go_wp2_with fail
            have hcv : c = (min z1 13).toNat := hcc.out
            obtain ⟨b2, hb2⟩ : ∃ b2, w2.heap.size = b2 := ⟨_, rfl⟩
            have HB2 := Lib.hid hb2
            go_loopg [5, 36] c (fun g a t wy => ∃ (k : Nat) (r : List Int), k ≤ c ∧ g = c - k ∧ t = .int .i64 (k : Int) ∧ Hid ((numsN k sb).1 = r) ∧ Hid (OwnI wy b2 a r) ∧ Hid (TkAt wy Bl Bm (numsN k sb).2) ∧ Hid (Fx (TkS Bl Bm) w2 wy))
            case atStart => exact ⟨0, [], Nat.zero_le _, rfl, rfl, rfl, OwnI.nil _ _, T2.out, Fx.refl _ _⟩
            case round =>
              obtain ⟨k, r, hk, rfl, rfl, hr, hown, hT, hF⟩ := hrel
              have hsz3 := hF.out.size
              by_cases hkc : k < c
              · have q1 : (k : Int) < z1 := by omega
                have q2 : (k : Int) < 13 := by omega
                obtain ⟨sk, hsk⟩ : ∃ sk, (numsN k sb).2 = sk := ⟨_, rfl⟩
                rw [hsk] at hT
                obtain ⟨y, sk', ek⟩ : ∃ y sk', nx sk = (y, sk') := ⟨_, _, rfl⟩
                have EK := Lib.hid ek
                have HY : Hid (In64 y) := (tk_step hT.out.all ek).1
                have HNUM : Hid (numsN (k + 1) sb = (r ++ [y], sk')) := by
                  show _ = _
                  rw [numsN, hr.out, hsk, EK.out]
                have hrl : r.length = k := by rw [← hr.out, nums_len]
                clear ek hsk
                go_wp2_with fail
                refine (next_c wr Bl Bm sk hT.out).mono ?_
                rintro e w3 ⟨rfl, hT3, hf3⟩
                rw [EK.out] at hT3 ⊢
                dsimp only at hT3 ⊢
                have T3 := Lib.hid hT3
                have hown3 := OwnI.fx hown.out hf3 (fun b e h => (hT.out.tagged (t := 3) (by decide) (by decide)) b e h.2)
                have HO3 := Lib.hid hown3
                have HF3 := Lib.hid (hF.out.trans hf3)
                have hsz4 := HF3.out.size
                clear hT3 hf3 hown3 hT hF hown hr
                go_wp2_with (at_builtin; refine wpList_appI rfl _ _ rfl b2 _ _ r [y] rfl (HO3.out.alloc _) rfl (SlI.one w3 HY.out) ?d3 ?d4 ?_)
                case d3 => show r.length + 1 ≤ 1000000; omega
                case d4 => rw [← HB2.out]; simp; omega
                intro v4 w4 hown4 hb4
                have HO4 := Lib.hid hown4
                have hf4 : Fx (fun b => b2 ≤ b) w3 w4 := by
                  have h1 : Below b2 w3 (w3.alloc (.cells #[.int .i64 y] 3)) := (Below.refl _ _).alloc (by rw [← HB2.out]; exact hsz4) _
                  have h2 := h1.trans hb4
                  exact ⟨h2.os, h2.tape, h2.output, h2.size, fun b _ hs => h2.block b (Nat.lt_of_not_le hs)⟩
                have HT4 : Hid (TkAt w4 Bl Bm sk') := T3.out.fxl hf4 (fun e => by have := HLT2.out; have := HB2.out; omega) (fun e => by have := HLT2.out; have := HB2.out; omega) (fun b e l _ => by have := HLT2.out; have := HB2.out; omega)
                have HF4 : Hid (Fx (TkS Bl Bm) w2 w4) := HF3.out.new hf4 (fun b e => .inr (by rw [HB2.out]; exact e))
                clear hown4 hb4 hf4
                go_wp2_with fail
                go_roundg (c - (k + 1))
                case measure => omega
                case rel => exact ⟨k + 1, r ++ [y], by omega, rfl, by go_num, by show _ = _; rw [HNUM.out], HO4.out, by rw [HNUM.out]; exact HT4.out, HF4.out⟩
              · obtain rfl : k = c := by omega
                have q1 : decide ((k : Int) < z1) = false := decide_eq_false (by omega)
                have hk13 : r.length ≤ 13 := by rw [← hr.out, nums_len]; exact hc13
                have BX3 : Hid (Box wr (w.heap.size + 1) #[vs, va] 27) := BX2.out.fx hF.out (by rintro (e | e) <;> have := HLT.out <;> omega)
                have S3 : Hid (SlST wr vs S1) := S2.out.fx hF.out (T2.out.tagged (by decide) (by decide))
                have L3 : OwnL wr W0.heap.size va LL := L2.out.fx hF.out (fun b e h => by
                  have h1 := HLT.out
                  have h2 := HB.out.size
                  rcases e with e | e <;> omega) (T2.out.tagged (by decide) (by decide))
                have F3 : Hid (Fx (fun b => TkS Bl Bm b ∨ b = w.heap.size + 1) W0 wr) := F2.out.trans (hF.out.mono (fun _ e => .inl e))
                have HA3 : Hid (SlIT wr _ r) := hown.out.slT
                obtain ⟨pa, ca, rfl, _⟩ := hown.out.shape
                obtain ⟨us, hu0, hu1, hu2⟩ := L3
                have HU0 := Lib.hid hu0
                have HU1 := Lib.hid hu1
                have HU2 := Lib.hid hu2
                obtain ⟨rl, hrl⟩ : ∃ rl, r.length = rl := ⟨_, rfl⟩
                rw [hrl] at HA3 ⊢
                have px1 : wr.cell? ⟨w.heap.size + 1, 1, none⟩ = some va := BX3.out.cell 1
                have lp3 := BX3.out.lt
                have fp3 := BX3.out.frozen 1
                have hbz3 := F3.out.size
                have HUL : Hid ((us.map fun u => [u]).length ≤ 1000000) := by show _ ≤ _; rw [List.length_map, HU0.out]; exact HLL.out
                clear hu0 hu1 hu2 hown hF hrl
                go_wp2_with (at_builtin; refine wpList_appC rfl _ _ 25 rfl W0.heap.size 54 1 24 _ Tryz.underlying25 infoLs rfl (by decide) (by decide) va (us.map fun u => [u]) [.slice pa rl ca] rfl (HU1.out.after (held_alloc (Below.refl _ _))) rfl (by simp [Value.oneCell']) ⟨wr.heap.size, 0, none⟩ 1 rfl cells_new HUL.out ?d4 ?_)
                case d4 => simp; omega
                intro v6 w6 hown6 hf6
                have BX6 : Hid (Box w6 (w.heap.size + 1) #[vs, va] 27) := (BX3.out.alloc _).fx hf6 (fun e => by cases (HU1.out.lt _ e).2.one BX3.out.tag)
                obtain ⟨p6, c6, e6, _⟩ := hown6.shape
                obtain ⟨l6, hl6⟩ : ∃ l6, (us.map (fun u => [u]) ++ [[Value.slice pa rl ca]]).length = l6 := ⟨_, rfl⟩
                rw [hl6] at e6
                subst e6
                have HOWN6 := Lib.hid hown6
                have HF6 := Lib.hid hf6
                have y1 : w6.cell? ⟨w.heap.size + 1, 1, none⟩ = some va := BX6.out.cell 1
                have yl := BX6.out.lt
                have yf := BX6.out.frozen 1
                clear hown6 hf6 px1 lp3 fp3 hl6
                go_wp2_with fail
                have HW6 : Hid (Fx (fun b => some b = va.ownBlock) wr w6) := ((Fx.refl _ wr).alloc _).trans HF6.out
                have hown : ∀ b, some b = va.ownBlock → W0.heap.size ≤ b ∧ TagB wr b 54 := HU1.out.lt
                have HOB := Lib.hid hown
                have hnt : ∀ t, t ≠ 54 → NoT (fun b => some b = va.ownBlock) wr t := fun t ht b e k => ht (k.one (HOB.out b e).2)
                have HNT := Lib.hid hnt
                have HPT : Hid (∀ t, t ≠ 27 → NoT (fun g => g = w.heap.size + 1) w6 t) := fun t ht b e k => by subst e; exact ht (k.one BX6.out.tag)
                have HFS := Lib.hid (Fx.set w6 (w.heap.size + 1) 1 (.slice p6 l6 c6))
                have FE : Hid (Fx (fun b => TkS Bl Bm b ∨ b = w.heap.size + 1) W0 (w6.setCell ⟨w.heap.size + 1, 1, none⟩ (.slice p6 l6 c6))) := (F3.out.new HW6.out (fun b e => .inr (HOB.out b e).1)).trans (HFS.out.mono (fun _ e => .inr e))
                have TE : Hid (TkAt (w6.setCell ⟨w.heap.size + 1, 1, none⟩ (.slice p6 l6 c6)) Bl Bm (numsN k sb).2) := (hT.out.fx HW6.out (fun e => by have h1 := (HOB.out _ e).1; have h2 := HLT.out; have h3 := HB.out.size; omega) (fun e => by have h1 := (HOB.out _ e).1; have h2 := HLT.out; have h3 := HB.out.size; omega) (HNT.out _ (by decide))).fx HFS.out (fun e => by have := HLT.out; omega) (fun e => by have := HLT.out; omega) (HPT.out _ (by decide))
                have SE : Hid (SlST (w6.setCell ⟨w.heap.size + 1, 1, none⟩ (.slice p6 l6 c6)) vs S1) := (S3.out.fx HW6.out (HNT.out _ (by decide))).fx HFS.out (HPT.out _ (by decide))
                have LE : Hid (OwnL (w6.setCell ⟨w.heap.size + 1, 1, none⟩ (.slice p6 l6 c6)) W0.heap.size (.slice p6 l6 c6) (LL ++ [r])) := OwnL.push HU0.out (HOWN6.out.fx HFS.out (fun b e h => HPT.out _ (by decide) b e h.2)) (fun i hi => ((HU2.out i hi).fx HW6.out (HNT.out _ (by decide))).fx HFS.out (HPT.out _ (by decide))) ((HA3.out.fx HW6.out (HNT.out _ (by decide))).fx HFS.out (HPT.out _ (by decide)))
                have BE : Hid (Box (w6.setCell ⟨w.heap.size + 1, 1, none⟩ (.slice p6 l6 c6)) (w.heap.size + 1) #[vs, .slice p6 l6 c6] 27) := by
                  have := BX6.out.set 1 (.slice p6 l6 c6)
                  show Box _ _ _ _
                  simpa using this
                have HAF : Hid (aftN (j + 1) sA = (LL ++ [r], (numsN k sb).2)) := by show _ = _; rw [HAFT.out, hr.out]
                clear hown hnt
                go_roundg (i - (j + 1))
                case measure => omega
                case rel => exact ⟨j + 1, .slice p6 l6 c6, by omega, rfl, by go_num, by rw [HAF.out]; exact TE.out, by rw [HAF.out]; exact LE.out, SE.out, BE.out, FE.out⟩

          · have hz13b : 13 < z1 := by omega
            go_wp2_with fail
            have hcv : c = (min z1 13).toNat := hcc.out
            obtain ⟨b2, hb2⟩ : ∃ b2, w2.heap.size = b2 := ⟨_, rfl⟩
            have HB2 := Lib.hid hb2
            go_loopg [5, 36] c (fun g a t wy => ∃ (k : Nat) (r : List Int), k ≤ c ∧ g = c - k ∧ t = .int .i64 (k : Int) ∧ Hid ((numsN k sb).1 = r) ∧ Hid (OwnI wy b2 a r) ∧ Hid (TkAt wy Bl Bm (numsN k sb).2) ∧ Hid (Fx (TkS Bl Bm) w2 wy))
            case atStart => exact ⟨0, [], Nat.zero_le _, rfl, rfl, rfl, OwnI.nil _ _, T2.out, Fx.refl _ _⟩
            case round =>
              obtain ⟨k, r, hk, rfl, rfl, hr, hown, hT, hF⟩ := hrel
              have hsz3 := hF.out.size
              by_cases hkc : k < c
              · have q1 : (k : Int) < z1 := by omega
                have q2 : (k : Int) < 13 := by omega
                obtain ⟨sk, hsk⟩ : ∃ sk, (numsN k sb).2 = sk := ⟨_, rfl⟩
                rw [hsk] at hT
                obtain ⟨y, sk', ek⟩ : ∃ y sk', nx sk = (y, sk') := ⟨_, _, rfl⟩
                have EK := Lib.hid ek
                have HY : Hid (In64 y) := (tk_step hT.out.all ek).1
                have HNUM : Hid (numsN (k + 1) sb = (r ++ [y], sk')) := by
                  show _ = _
                  rw [numsN, hr.out, hsk, EK.out]
                have hrl : r.length = k := by rw [← hr.out, nums_len]
                clear ek hsk
                go_wp2_with fail
                refine (next_c wr Bl Bm sk hT.out).mono ?_
                rintro e w3 ⟨rfl, hT3, hf3⟩
                rw [EK.out] at hT3 ⊢
                dsimp only at hT3 ⊢
                have T3 := Lib.hid hT3
                have hown3 := OwnI.fx hown.out hf3 (fun b e h => (hT.out.tagged (t := 3) (by decide) (by decide)) b e h.2)
                have HO3 := Lib.hid hown3
                have HF3 := Lib.hid (hF.out.trans hf3)
                have hsz4 := HF3.out.size
                clear hT3 hf3 hown3 hT hF hown hr
                go_wp2_with (at_builtin; refine wpList_appI rfl _ _ rfl b2 _ _ r [y] rfl (HO3.out.alloc _) rfl (SlI.one w3 HY.out) ?d3 ?d4 ?_)
                case d3 => show r.length + 1 ≤ 1000000; omega
                case d4 => rw [← HB2.out]; simp; omega
                intro v4 w4 hown4 hb4
                have HO4 := Lib.hid hown4
                have hf4 : Fx (fun b => b2 ≤ b) w3 w4 := by
                  have h1 : Below b2 w3 (w3.alloc (.cells #[.int .i64 y] 3)) := (Below.refl _ _).alloc (by rw [← HB2.out]; exact hsz4) _
                  have h2 := h1.trans hb4
                  exact ⟨h2.os, h2.tape, h2.output, h2.size, fun b _ hs => h2.block b (Nat.lt_of_not_le hs)⟩
                have HT4 : Hid (TkAt w4 Bl Bm sk') := T3.out.fxl hf4 (fun e => by have := HLT2.out; have := HB2.out; omega) (fun e => by have := HLT2.out; have := HB2.out; omega) (fun b e l _ => by have := HLT2.out; have := HB2.out; omega)
                have HF4 : Hid (Fx (TkS Bl Bm) w2 w4) := HF3.out.new hf4 (fun b e => .inr (by rw [HB2.out]; exact e))
                clear hown4 hb4 hf4
                go_wp2_with fail
                go_roundg (c - (k + 1))
                case measure => omega
                case rel => exact ⟨k + 1, r ++ [y], by omega, rfl, by go_num, by show _ = _; rw [HNUM.out], HO4.out, by rw [HNUM.out]; exact HT4.out, HF4.out⟩
              · obtain rfl : k = c := by omega
                have q1 : decide ((k : Int) < 13) = false := decide_eq_false (by omega)
                have hk13 : r.length ≤ 13 := by rw [← hr.out, nums_len]; exact hc13
                have BX3 : Hid (Box wr (w.heap.size + 1) #[vs, va] 27) := BX2.out.fx hF.out (by rintro (e | e) <;> have := HLT.out <;> omega)
                have S3 : Hid (SlST wr vs S1) := S2.out.fx hF.out (T2.out.tagged (by decide) (by decide))
                have L3 : OwnL wr W0.heap.size va LL := L2.out.fx hF.out (fun b e h => by
                  have h1 := HLT.out
                  have h2 := HB.out.size
                  rcases e with e | e <;> omega) (T2.out.tagged (by decide) (by decide))
                have F3 : Hid (Fx (fun b => TkS Bl Bm b ∨ b = w.heap.size + 1) W0 wr) := F2.out.trans (hF.out.mono (fun _ e => .inl e))
                have HA3 : Hid (SlIT wr _ r) := hown.out.slT
                obtain ⟨pa, ca, rfl, _⟩ := hown.out.shape
                obtain ⟨us, hu0, hu1, hu2⟩ := L3
                have HU0 := Lib.hid hu0
                have HU1 := Lib.hid hu1
                have HU2 := Lib.hid hu2
                obtain ⟨rl, hrl⟩ : ∃ rl, r.length = rl := ⟨_, rfl⟩
                rw [hrl] at HA3 ⊢
                have px1 : wr.cell? ⟨w.heap.size + 1, 1, none⟩ = some va := BX3.out.cell 1
                have lp3 := BX3.out.lt
                have fp3 := BX3.out.frozen 1
                have hbz3 := F3.out.size
                have HUL : Hid ((us.map fun u => [u]).length ≤ 1000000) := by show _ ≤ _; rw [List.length_map, HU0.out]; exact HLL.out
                clear hu0 hu1 hu2 hown hF hrl
                go_wp2_with (at_builtin; refine wpList_appC rfl _ _ 25 rfl W0.heap.size 54 1 24 _ Tryz.underlying25 infoLs rfl (by decide) (by decide) va (us.map fun u => [u]) [.slice pa rl ca] rfl (HU1.out.after (held_alloc (Below.refl _ _))) rfl (by simp [Value.oneCell']) ⟨wr.heap.size, 0, none⟩ 1 rfl cells_new HUL.out ?d4 ?_)
                case d4 => simp; omega
                intro v6 w6 hown6 hf6
                have BX6 : Hid (Box w6 (w.heap.size + 1) #[vs, va] 27) := (BX3.out.alloc _).fx hf6 (fun e => by cases (HU1.out.lt _ e).2.one BX3.out.tag)
                obtain ⟨p6, c6, e6, _⟩ := hown6.shape
                obtain ⟨l6, hl6⟩ : ∃ l6, (us.map (fun u => [u]) ++ [[Value.slice pa rl ca]]).length = l6 := ⟨_, rfl⟩
                rw [hl6] at e6
                subst e6
                have HOWN6 := Lib.hid hown6
                have HF6 := Lib.hid hf6
                have y1 : w6.cell? ⟨w.heap.size + 1, 1, none⟩ = some va := BX6.out.cell 1
                have yl := BX6.out.lt
                have yf := BX6.out.frozen 1
                clear hown6 hf6 px1 lp3 fp3 hl6
                go_wp2_with fail
                have HW6 : Hid (Fx (fun b => some b = va.ownBlock) wr w6) := ((Fx.refl _ wr).alloc _).trans HF6.out
                have hown : ∀ b, some b = va.ownBlock → W0.heap.size ≤ b ∧ TagB wr b 54 := HU1.out.lt
                have HOB := Lib.hid hown
                have hnt : ∀ t, t ≠ 54 → NoT (fun b => some b = va.ownBlock) wr t := fun t ht b e k => ht (k.one (HOB.out b e).2)
                have HNT := Lib.hid hnt
                have HPT : Hid (∀ t, t ≠ 27 → NoT (fun g => g = w.heap.size + 1) w6 t) := fun t ht b e k => by subst e; exact ht (k.one BX6.out.tag)
                have HFS := Lib.hid (Fx.set w6 (w.heap.size + 1) 1 (.slice p6 l6 c6))
                have FE : Hid (Fx (fun b => TkS Bl Bm b ∨ b = w.heap.size + 1) W0 (w6.setCell ⟨w.heap.size + 1, 1, none⟩ (.slice p6 l6 c6))) := (F3.out.new HW6.out (fun b e => .inr (HOB.out b e).1)).trans (HFS.out.mono (fun _ e => .inr e))
                have TE : Hid (TkAt (w6.setCell ⟨w.heap.size + 1, 1, none⟩ (.slice p6 l6 c6)) Bl Bm (numsN k sb).2) := (hT.out.fx HW6.out (fun e => by have h1 := (HOB.out _ e).1; have h2 := HLT.out; have h3 := HB.out.size; omega) (fun e => by have h1 := (HOB.out _ e).1; have h2 := HLT.out; have h3 := HB.out.size; omega) (HNT.out _ (by decide))).fx HFS.out (fun e => by have := HLT.out; omega) (fun e => by have := HLT.out; omega) (HPT.out _ (by decide))
                have SE : Hid (SlST (w6.setCell ⟨w.heap.size + 1, 1, none⟩ (.slice p6 l6 c6)) vs S1) := (S3.out.fx HW6.out (HNT.out _ (by decide))).fx HFS.out (HPT.out _ (by decide))
                have LE : Hid (OwnL (w6.setCell ⟨w.heap.size + 1, 1, none⟩ (.slice p6 l6 c6)) W0.heap.size (.slice p6 l6 c6) (LL ++ [r])) := OwnL.push HU0.out (HOWN6.out.fx HFS.out (fun b e h => HPT.out _ (by decide) b e h.2)) (fun i hi => ((HU2.out i hi).fx HW6.out (HNT.out _ (by decide))).fx HFS.out (HPT.out _ (by decide))) ((HA3.out.fx HW6.out (HNT.out _ (by decide))).fx HFS.out (HPT.out _ (by decide)))
                have BE : Hid (Box (w6.setCell ⟨w.heap.size + 1, 1, none⟩ (.slice p6 l6 c6)) (w.heap.size + 1) #[vs, .slice p6 l6 c6] 27) := by
                  have := BX6.out.set 1 (.slice p6 l6 c6)
                  show Box _ _ _ _
                  simpa using this
                have HAF : Hid (aftN (j + 1) sA = (LL ++ [r], (numsN k sb).2)) := by show _ = _; rw [HAFT.out, hr.out]
                clear hown hnt
                go_roundg (i - (j + 1))
                case measure => omega
                case rel => exact ⟨j + 1, .slice p6 l6 c6, by omega, rfl, by go_num, by rw [HAF.out]; exact TE.out, by rw [HAF.out]; exact LE.out, SE.out, BE.out, FE.out⟩
        · obtain rfl : j = i := by omega
          have hjz : decide ((j : Int) < z) = false := hiz2
          obtain ⟨pS, cS, rfl, _⟩ := HS.out.1.2.shape
          have hLT := hL.out.slT
          obtain ⟨uL, huL, _⟩ := id hLT.1
          obtain ⟨pL, cL, rfl, _⟩ := huL.shape
          have HLT2 := Lib.hid hLT
          clear hLT huL
          have px0 : wr.cell? ⟨w.heap.size + 1, 0, none⟩ = some (.slice pS S1.length cS) := hBX.out.cell 0
          have px1 : wr.cell? ⟨w.heap.size + 1, 1, none⟩ = some (.slice pL (aftN j sA).1.length cL) := hBX.out.cell 1
          have HBR : Hid (Box wr w.heap.size zeroP 27) := BX.out.fx hF.out (by rintro (e | e); rcases e with e | e <;> have := HLT.out <;> omega; omega)
          have ly := hBX.out.lt
          have lx := HBR.out.lt
          have fx0 := HBR.out.frozen 0
          have fx1 := HBR.out.frozen 1
          have py0 : wr.cell? ⟨w.heap.size, 0, none⟩ = some (.slice none 0 0) := HBR.out.cell 0
          have py1 : wr.cell? ⟨w.heap.size, 1, none⟩ = some (.slice none 0 0) := HBR.out.cell 1
          obtain ⟨nL, hnL⟩ : ∃ nL, (aftN j sA).1.length = nL := ⟨_, rfl⟩
          rw [hnL] at px1 hBX hL
          have HNL := Lib.hid hnL
          clear hnL
          obtain ⟨nS, hnS⟩ : ∃ nS, S1.length = nS := ⟨_, rfl⟩
          rw [hnS] at px0 hBX HS
          have HNS := Lib.hid hnS
          clear hnS
          go_wp2_with fail
          have hfs : Fx (fun g => g = w.heap.size) wr ((wr.setCell ⟨w.heap.size, 0, none⟩ (.slice pS nS cS)).setCell ⟨w.heap.size, 1, none⟩ (.slice pL nL cL)) := (Fx.set wr _ 0 _).trans (Fx.set _ _ 1 _)
          refine (show (∀ WE, Box WE w.heap.size #[.slice pS nS cS, .slice pL nL cL] 27 → Fx (fun g => g = w.heap.size) wr WE → bodyPost Tryz.prog _ (RetPl w Bl Bm s) Exit.ret _ WE) → _ from fun H => H _ (by have := (HBR.out.set 0 (.slice pS nS cS)).set 1 (.slice pL nL cL); simpa [zeroP] using this) hfs) ?_
          clear hfs
          intro WE HE hfs
          have z0 := HE.cell 0
          have z1 := HE.cell 1
          refine bodyPost_ret (v := .agg #[.slice pS nS cS, .slice pL nL cL]) (by simp [results, Tryz.results52, go_sem, z0, z1]) rfl ?_
          have hnoT : ∀ t, t ≠ 27 → NoT (fun g => g = w.heap.size) wr t := fun t ht b e k => by subst e; exact ht (k.one HBR.out.tag)
          refine ⟨_, _, rfl, ?_, ?_, ?_, ?_⟩
          · rw [HPL.out]; exact HS.out.fx hfs (hnoT _ (by decide))
          · rw [HPL.out]
            have h2 := HLT2.out
            rw [HNL.out] at h2
            exact h2.fx hfs (hnoT _ (by decide)) (hnoT _ (by decide))
          · rw [HPL.out]
            exact hT.out.fx hfs (fun e => by have := HLT.out; omega) (fun e => by have := HLT.out; omega) (hnoT _ (by decide))
          · have f1 : Fx (TkS Bl Bm) w wr := (Fx.of_below HB.out).new hF.out (fun b e => e.elim .inl (fun e => .inr (by omega)))
            exact f1.new hfs (fun b e => .inr (by omega))
end Go.Proofs.YtpaoeeamlinaaaaGreatDoor
