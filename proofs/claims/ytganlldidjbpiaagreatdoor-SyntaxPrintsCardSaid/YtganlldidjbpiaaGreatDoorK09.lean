/- Walks of package syntax: apart.
   Walks of package syntax: the maps of readers. -/
import Derived.Test.YtganlldidjbpiaaGreatDoorK08
import Derived.Maps.Own
import Derived.Maps.OwnSet
import Derived.Maps.Views
set_option linter.unusedVariables false
namespace Go.Proofs.YtganlldidjbpiaaGreatDoor
open Go.RowKit Go.Shelf

/-- What an operation yields, in a region where operation i1 appends: what is not a plain value is wanted before i1 only. -/
structure KP (S : Nat → Prop) where
  b : Bool
  F : Value → World → Prop
  st : ∀ v w w', Fx S w w' → F v w → F v w'
  pu : b = true → ∀ v w w', F v w → F v w'
def KP.eq {S : Nat → Prop} (u : Value) : KP S := ⟨true, fun v _ => v = u, fun _ _ _ _ h => h, fun _ _ _ _ h => h⟩
def KP.pv {S : Nat → Prop} (P : Value → Prop) : KP S := ⟨true, fun v _ => P v, fun _ _ _ _ h => h, fun _ _ _ _ h => h⟩
def KP.any {S : Nat → Prop} : KP S := ⟨true, fun _ _ => True, fun _ _ _ _ h => h, fun _ _ _ _ h => h⟩
def KP.ev {S : Nat → Prop} (F : Value → World → Prop) (st : ∀ v w w', Fx S w w' → F v w → F v w') : KP S := ⟨false, F, st, fun h => by cases h⟩
def SKP {S : Nat → Prop} (i1 : Nat) (K : Nat → KP S) (l : Array Bool) (k : Nat) (v : Value) (w : World) : Prop := ((K k).b = true ∨ ¬ up l i1 ∨ k = i1) → (K k).F v w
section
variable {S : Nat → Prop} {i1 i k : Nat} {K : Nat → KP S} {l : Array Bool} {v : Value} {w w' : World}
theorem SKP.keep (h : SKP i1 K l k v w) (hf : Fx S w w') : SKP i1 K (l.setIfInBounds i true) k v w' :=
  fun hh => (K k).st _ _ _ hf (h (hh.imp id (fun h => h.imp (fun h u => h (up_keep u)) id)))
theorem SKP.app (h : SKP i1 K l k v w) (hk : k ≠ i1) (hl : i1 < l.size) : SKP i1 K (l.setIfInBounds i1 true) k v w' := by
  intro hh
  rcases hh with hh | hh | hh
  · exact (K k).pu hh _ _ _ (h (.inl hh))
  · exact absurd (up_self hl) hh
  · exact absurd hh hk
end
theorem step_appC {w : World} {ops : Array Oper} {o : Oper} {tm : Array Value} {df : List Deferred} {K : Act → World → Prop} {Q : Exit → Act → World → Prop} {E : Prop} (hg : o.guard = none) (s x : Operand) (t : TypeId)
    (ho : o.op = .call { callee := .builtin .append, args := #[s, x], argTypes := #[t, t] })
    (base : Nat) (e : TypeId) (k bytes : Nat) (z : Value) (ht : Tryz.prog.underlying t = some (.slice e)) (hi : (Tryz.prog.info? e).map (fun i => (i.zero, i.size, i.bytes)) = some (some z, k, bytes)) (hzs : z.cells.size = k) (hk : 0 < k) (hby : bytes ≤ 1000)
    (v : Value) (rows : List (List Value)) (row : List Value) (hs : (⟨tm, df⟩ : Act).eval s = v) (hown : OwnC w base e k v rows) (hrow : row.length = k) (h1 : ∀ u ∈ row, u.oneCell' = true) (ad : Addr) (c : Nat) (hx : (⟨tm, df⟩ : Act).eval x = .slice (some ad) 1 c) (hnews : ∀ j u, row[j]? = some u → w.cell? (ad.add j) = some u) (hl : rows.length ≤ 1000000) (hbase : base ≤ w.heap.size)
    (hK : ∀ v' w', OwnC w' base e k v' (rows ++ [row]) → Fx (fun b => some b = v.ownBlock) w w' → (v'.ownBlock = v.ownBlock ∨ v'.ownBlock = some w.heap.size) → K ((⟨tm, df⟩ : Act).put o.dst v') w') :
    if Region.wanted o (yielded ops tm) = true then o.wp Tryz.prog ⟨tm, df⟩ w K Q else E := by
  have hw : Region.wanted o (yielded ops tm) = true := by simp [Region.wanted, hg]
  rw [if_pos hw]
  obtain ⟨v', w', hr, h2, h3, h4⟩ := run_appC w base t o.type e k bytes z ht hi hzs hk hby v rows row hown hrow h1 ad c hnews hl hbase
  unfold Oper.wp execOp
  simp only [ho, resolve, invoke, builtin, Sem.run_bind, Sem.run_pure, Result.andThen_ok, List.map_toArray, List.map_cons, List.map_nil, hs, hx, hr]
  exact hK v' w' h2 h3 h4
theorem wpList_appC {w : World} {ops : Array Oper} {rest : List Oper} {o : Oper} {a : Act} {Q : Exit → Act → World → Prop} (hgd : o.guard = none) (s x : Operand) (t : TypeId)
    (ho : o.op = .call { callee := .builtin .append, args := #[s, x], argTypes := #[t, t] })
    (base : Nat) (e : TypeId) (k bytes : Nat) (z : Value) (ht : Tryz.prog.underlying t = some (.slice e)) (hi : (Tryz.prog.info? e).map (fun i => (i.zero, i.size, i.bytes)) = some (some z, k, bytes)) (hzs : z.cells.size = k) (hk : 0 < k) (hby : bytes ≤ 1000)
    (v : Value) (rows : List (List Value)) (row : List Value) (hs : a.eval s = v) (hown : OwnC w base e k v rows) (hrow : row.length = k) (h1 : ∀ u ∈ row, u.oneCell' = true) (ad : Addr) (c : Nat) (hx : a.eval x = .slice (some ad) 1 c) (hnews : ∀ j u, row[j]? = some u → w.cell? (ad.add j) = some u) (hl : rows.length ≤ 1000000) (hbase : base ≤ w.heap.size)
    (h : ∀ v' w', OwnC w' base e k v' (rows ++ [row]) → Fx (fun b => some b = v.ownBlock) w w' → (v'.ownBlock = v.ownBlock ∨ v'.ownBlock = some w.heap.size) → wpList Tryz.prog ops Q rest (a.put o.dst v') w') :
    wpList Tryz.prog ops Q (o :: rest) a w := by
  refine wpList_plain hgd fun K hK => ?_
  obtain ⟨v', w', hr, h2, h3, h4⟩ := run_appC w base t o.type e k bytes z ht hi hzs hk hby v rows row hown hrow h1 ad c hnews hl hbase
  unfold Oper.wp execOp
  simp only [ho, resolve, invoke, builtin, Sem.run_bind, Sem.run_pure, Result.andThen_ok, List.map_toArray, List.map_cons, List.map_nil, hs, hx, hr]
  exact hK _ _ (h v' w' h2 h3 h4)
theorem Box.news {w : World} {b : Nat} {row : List Value} {t : TypeId} (h : Box w b row.toArray t) : ∀ j u, row[j]? = some u → w.cell? ((⟨b, 0, none⟩ : Addr).add j) = some u := by
  intro j u hj
  rw [add_off, Nat.zero_add, h.cell j]
  simpa using hj
theorem OwnN.snoc {w w' : World} {base : Nat} {v v' : Value} {l : List (List UInt8)} {n : List UInt8} (h : OwnN w base v l) (hn : n.length ≤ 9223372036854775807) (h' : OwnC w' base 9 1 v' (l.map (fun n => [Value.string (bs n)]) ++ [[Value.string (bs n)]])) : OwnN w' base v' (l ++ [n]) :=
  ⟨fun m hm => by
    rcases List.mem_append.1 hm with h1 | h1
    · exact h.1 m h1
    · rw [List.mem_singleton.1 h1]; exact hn, by rw [List.map_append]; exact h'⟩
/-- What may turn in a round of apart: the parser, the clause, the block of the names' row. -/
def TA (p c base : Nat) (v0 : Value) (b : Nat) : Prop := b = p ∨ b = c ∨ ofRow base v0 b
def CA (W0 : World) (p c : Nat) (en : Int) (base : Nat) (v0 : Value) (nl : List (List UInt8)) (cs : Array Value) (ts : List Tok) (x : PR (List UInt8)) (l : Array Bool) (_ : Nat → Value) (w : World) : Prop :=
  Fx (TA p c base v0) W0 w ∧ (¬ up l 6 → PS w p ts en) ∧ (up l 6 → ∃ n r, x = .ok (n, r) ∧ PS w p r en) ∧ (¬ up l 8 → OwnN w base v0 nl) ∧ Box w c cs 43
section
variable {W0 : World} {p c : Nat} {en : Int} {base : Nat} {v0 : Value} {nl : List (List UInt8)} {cs : Array Value} {ts : List Tok} {x : PR (List UInt8)} {l : Array Bool} {f g : Nat → Value} {w w' : World}
theorem CA.start {n : Nat} (h1 : PS W0 p ts en) (h2 : OwnN W0 base v0 nl) (h3 : Box W0 c cs 43) : CA W0 p c en base v0 nl cs ts x (Array.replicate n false) f W0.drew := by
  have hf : Fx (fun _ => False) W0 W0.drew := (Fx.refl _ _).drew
  exact ⟨(Fx.refl _ W0).drew, fun _ => h1.fx hf (fun _ e => e.elim), fun u => absurd u (up_none _ _), fun _ => h2.fx hf (fun _ e => e.elim), h3.fx hf (fun e => e)⟩
theorem CA.keep {i : Nat} (h : CA W0 p c en base v0 nl cs ts x l f w) (h6 : 6 ≠ i) (h8 : 8 ≠ i) (hb : Below w.heap.size w w') : CA W0 p c en base v0 nl cs ts x (l.setIfInBounds i true) g w' := by
  obtain ⟨a1, a2, a3, a4, a5⟩ := h
  have hf : Fx (fun _ => False) w w' := Fx.of_below hb
  refine ⟨a1.below hb, fun u => (a2 (fun u' => u (up_keep u'))).after hb, fun u => ?_, fun u => (a4 (fun u' => u (up_keep u'))).fx hf (fun _ e => e.elim), a5.after hb⟩
  obtain ⟨n, r, e, hp⟩ := a3 (up_set u h6)
  exact ⟨n, r, e, hp.after hb⟩
theorem CA.read {n : List UInt8} {r : List Tok} (h : CA W0 p c en base v0 nl cs ts x l f w) (hl : 6 < l.size) (hf : Fx (fun b => b = p) w w') (e : x = .ok (n, r)) (hp : PS w' p r en) (hpc : p < c) (hbp : p < base) : CA W0 p c en base v0 nl cs ts x (l.setIfInBounds 6 true) g w' := by
  obtain ⟨a1, a2, a3, a4, a5⟩ := h
  exact ⟨a1.trans (hf.mono (fun b e => .inl e)), fun u => absurd (up_self hl) u, fun _ => ⟨n, r, e, hp⟩, fun u => (a4 (fun u' => u (up_keep u'))).fx hf (fun b e hb => by have := hb.1; omega), a5.fx hf (fun e => by omega)⟩
theorem CA.app (h : CA W0 p c en base v0 nl cs ts x l f w) (hl : 8 < l.size) (hf : Fx (fun b => some b = v0.ownBlock) w w') (ho : ∀ b, some b = v0.ownBlock → base ≤ b ∧ c < b) (hpc : p < c) : CA W0 p c en base v0 nl cs ts x (l.setIfInBounds 8 true) g w' := by
  obtain ⟨a1, a2, a3, a4, a5⟩ := h
  refine ⟨a1.trans (hf.mono (fun b e => .inr (.inr ⟨(ho b e).1, e⟩))), fun u => (a2 (fun u' => u (up_keep u'))).fx hf (fun b e => Nat.lt_trans hpc (ho b e).2), fun u => ?_, fun u => absurd (up_self hl) u, a5.fx hf (fun e => by have := (ho c e).2; omega)⟩
  obtain ⟨n, r, e, hp⟩ := a3 (up_set u (by omega))
  exact ⟨n, r, e, hp.fx hf (fun b e => Nat.lt_trans hpc (ho b e).2)⟩
end
/-- The names behind a comma each, by have and name. -/
theorem haveF_yes {s : List UInt8} {t : Tok} {r : List Tok} (h : (t.text == s) = true) : haveF s (t :: r) = (true, r) := if_pos h
theorem haveF_no {s : List UInt8} {t : Tok} {r : List Tok} (h : (t.text == s) = false) : haveF s (t :: r) = (false, t :: r) := if_neg (by rw [h]; simp)
theorem haveF_stay {s : List UInt8} {r : List Tok} (h : (haveF s r).1 = false) : (haveF s r).2 = r := by
  cases r with
  | nil => rfl
  | cons t r =>
    cases ht : (t.text == s) with
    | false => rw [haveF_no ht]
    | true => rw [haveF_yes ht] at h; cases h
theorem haveF_len {s : List UInt8} {r : List Tok} (h : (haveF s r).1 = true) : (haveF s r).2.length + 1 = r.length := by
  cases r with
  | nil => cases h
  | cons t r =>
    cases ht : (t.text == s) with
    | false => rw [haveF_no ht] at h; cases h
    | true => rw [haveF_yes ht]; rfl
theorem moreP_one (t : Tok) : moreP [t] = if t.text == sComma then .error [] else .ok ([], [t]) := rfl
theorem moreP_have (r : List Tok) : moreP r = if (haveF sComma r).1 then (andP (nameP (haveF sComma r).2) fun n r => andP (moreP r) fun l r => .ok (n :: l, r)) else .ok ([], r) := by
  match r with
  | [] => rfl
  | [t] =>
    rw [moreP_one]
    cases h : (t.text == sComma) with
    | false => rw [haveF_no h]; rfl
    | true => rw [haveF_yes h]; rfl
  | t :: t2 :: r =>
    rw [moreP_at]
    cases h : (t.text == sComma) with
    | false => rw [haveF_no h]; rfl
    | true =>
      rw [haveF_yes h]
      unfold nameP
      simp only [if_true]
      rw [nextP_at]
      cases hn : namedT t2 <;> rfl
def apartP (ts : List Tok) : PR (List (List UInt8)) := andP (nameP ts) fun n r => andP (moreP r) fun l r => .ok (n :: l, r)
set_option maxRecDepth 100000 in
set_option maxHeartbeats 4000000 in
theorem apart_c (N : Nat) (w : World) (p c : Nat) (ts : List Tok) (en : Int) (k d i a b vi o : Value) (h : PS w p ts en) (hb : Box w c #[k, .slice none 0 0, d, i, a, b, vi, o] 43) (hpc : p < c) (hN : N ≤ w.heap.size) (hNp : N ≤ p) (he : Wds N w) (hlen : ts.length ≤ 100000) :
    Calls Tryz.prog 124 #[.pointer (some ⟨p, 0, none⟩), .pointer (some ⟨c, 0, none⟩)] w (Rd (fun g => g = p ∨ g = c) p en w (fun y v w' => v = .tuple #[] ∧ ∃ vn', Box w' c #[k, vn', d, i, a, b, vi, o] 43 ∧ SlN (fun b => w.heap.size ≤ b) w' vn' y) (apartP ts)) := by
  have hS : ∀ b, (b = p ∨ b = c) → N ≤ b := fun b e => by rcases e with e | e <;> omega
  have hcw := hb.lt
  have hpw := h.lt
  obtain ⟨y, hy⟩ : ∃ y, apartP ts = y := ⟨_, rfl⟩
  rw [hy]
  have HX0 : Hid ((andP (nameP ts) fun y0 s0 => andP (moreP s0) fun l r => (.ok (y0 :: l, r) : PR _)) = y) := hy
  have HP0 := Lib.hid h
  have HB0 := Lib.hid hb
  have HE0 := Lib.hid he
  clear hy h hb he
  go_enter Tryz.func124, Tryz.ntmps124
  go_wp2_with fail
  refine (name_c N _ p ts en HP0.out hN HE0.out).mono ?_
  rintro e w1 ⟨hf, hr⟩
  have HF1 : Hid (Fx (fun g => g = p ∨ g = c) w w1) := hf.mono (fun b e => .inl e)
  have HE1 := Lib.hid (HE0.out.fx hf (fun b e => hS b (.inl e)))
  have HB1 := Lib.hid (HB0.out.fx hf (fun e => by omega))
  clear hf HE0 HB0 HP0
  rcases hn : nameP ts with r1 | ⟨z0, r1⟩
  · rw [hn] at hr
    have HX1 : Hid (y = .error r1) := by have := HX0.out; rw [hn] at this; exact this.symm
    have hr : e = _ := hr
    subst hr
    clear hn HX0
    go_wp2_with fail
    rw [HX1.out]
    exact ⟨rfl, HF1.out, rfl⟩
  rw [hn] at hr
  obtain ⟨hp, v, rfl, rfl, hz0⟩ := hr
  have HZ0 := Lib.hid hz0
  have hlr : r1.length ≤ ts.length := by obtain ⟨t, e, _⟩ := nameP_len hn; rw [e]; simp
  clear hz0
  have HX1 : Hid ((andP (moreP r1) fun l r => (.ok (z0 :: l, r) : PR _)) = y) := by have := HX0.out; rw [hn] at this; exact this
  have HP1 := Lib.hid hp
  clear hp hn HX0
  have cj : w1.cell? ⟨c, 1, none⟩ = some (.slice none 0 0) := HB1.out.cell 1
  have fj := HB1.out.frozen 1
  have hcw1 := HB1.out.lt
  obtain ⟨ws, hws⟩ : ∃ ws, ws = w1.setCell ⟨c, 1, none⟩ (.slice (some ⟨w1.heap.size, 0, none⟩) 1 1) := ⟨_, rfl⟩
  have hss : ws.heap.size = w1.heap.size := by rw [hws]; simp [World.setCell]
  have hfs : Fx (fun g => g = c) w1 ws := hws ▸ Fx.set w1 c 1 _
  obtain ⟨w2, hw2⟩ : ∃ w2, w2 = ws.alloc (.cells #[.string (bs z0)] 9) := ⟨_, rfl⟩
  have hba : Below ws.heap.size ws w2 := hw2 ▸ held_alloc (Below.refl _ _)
  have hna := OwnN.one ws w.heap.size z0 HZ0.out (Nat.le_trans HF1.out.size hfs.size)
  rw [← hw2, hss] at hna
  have HO2 := Lib.hid hna
  have HB2 : Hid (Box w2 c #[k, .slice (some ⟨w1.heap.size, 0, none⟩) 1 1, d, i, a, b, vi, o] 43) := by
    have h8 : Box ws c #[k, .slice (some ⟨w1.heap.size, 0, none⟩) 1 1, d, i, a, b, vi, o] 43 := by rw [hws]; simpa using HB1.out.set 1 (.slice (some ⟨w1.heap.size, 0, none⟩) 1 1)
    exact h8.after hba
  have HP2 := Lib.hid ((HP1.out.fx hfs (fun b e => e ▸ hpc)).after hba)
  have HE2 := Lib.hid ((HE1.out.fx hfs (fun b e => hS b (.inr e))).after hba)
  have HF2 := Lib.hid ((HF1.out.trans (hfs.mono (fun b e => .inr e))).below hba)
  clear HB1 HP1 HE1 HF1 hfs hba hna
  go_wp2_with fail
  rw [← hws, ← hw2]
  clear hws hw2 cj fj hss hcw1
  go_loopg [] (r1.length + 1) (fun gn wx => ∃ r v0 nl, gn = r.length + 1 ∧ r.length + nl.length ≤ 100001 ∧ Hid ((andP (moreP r) fun l r => (.ok (nl ++ l, r) : PR _)) = y) ∧ Hid (PS wx p r en) ∧ Hid (Wds N wx) ∧ Hid (Fx (fun g => g = p ∨ g = c) w wx) ∧ Hid (OwnN wx w.heap.size v0 nl) ∧ Hid (Box wx c #[k, v0, d, i, a, b, vi, o] 43))
  case atStart => exact ⟨r1, _, [z0], rfl, by simp; omega, HX1.out, HP2.out, HE2.out, HF2.out, HO2.out, HB2.out⟩
  case round =>
    obtain ⟨r, v0, nl, rfl, hll, HX, HP, HE, HF, HO, HB⟩ := hrel
    obtain ⟨q0, cap0, rfl, _, _, _⟩ := HO.out.shape
    go_wp2_with fail
    refine (have_c _ p r en sComma HP.out).mono ?_
    rintro e w3 ⟨rfl, hp3, hf3⟩
    have HP3 := Lib.hid hp3
    have HF3 := Lib.hid (HF.out.trans (hf3.mono (fun b e => .inl e)))
    have HE3 := Lib.hid (HE.out.fx hf3 (fun b e => hS b (.inl e)))
    have HO3 := Lib.hid (HO.out.fx hf3 (fun b e hb => by have := hb.1; omega))
    have HB3 := Lib.hid (HB.out.fx hf3 (fun e => by omega))
    clear hp3 hf3 HP HF HE HO HB
    have hX := HX.out
    rw [moreP_have] at hX
    cases hh : (haveF sComma r).1 with
    | false =>
      rw [hh] at hX
      have hr0 := haveF_stay hh
      rw [hr0] at HP3
      have HX3 : Hid (y = .ok (nl, r)) := by show _ = _; rw [← hX]; simp [andP]
      clear hX hh hr0 HX
      go_wp2_with fail
      go_end0
      rw [HX3.out]
      exact ⟨HF3.out, HP3.out, _, rfl, rfl, _, HB3.out, HO3.out.slN.mono (fun b hb _ => hb.1)⟩
    | true =>
      rw [hh] at hX
      have hlr2 := haveF_len hh
      obtain ⟨ts2, hts2⟩ : ∃ ts2, (haveF sComma r).2 = ts2 := ⟨_, rfl⟩
      rw [hts2] at hX hlr2 HP3
      clear hh hts2 HX
      obtain ⟨x, hx⟩ : ∃ x, nameP ts2 = x := ⟨_, rfl⟩
      have HX := Lib.hid hx
      rw [hx] at hX
      have HY : Hid ((andP x fun n r => andP (moreP r) fun l r => (.ok (nl ++ n :: l, r) : PR _)) = y) := by
        show _ = _
        rw [← hX]
        rcases x with e | ⟨n, r'⟩
        · rfl
        · simp only [andP, if_true]
          rcases moreP r' with e | ⟨l', r''⟩ <;> rfl
      clear hx hX
      -- names for the region
      obtain ⟨W0, hW0⟩ : ∃ W0, W0 = w3 := ⟨_, rfl⟩
      subst hW0
      obtain ⟨base, hbase⟩ : ∃ base, base = w.heap.size := ⟨_, rfl⟩
      rw [← hbase] at HO3
      have hb0 : base ≤ W0.heap.size := hbase ▸ HF3.out.size
      have hbp : p < base := by omega
      have hcb : c < base := by omega
      obtain ⟨v0, hv0⟩ : ∃ v0, v0 = Value.slice q0 nl.length cap0 := ⟨_, rfl⟩
      have HTS : Hid (∀ b, TA p c base v0 b → (b = p ∨ b = c) ∨ base ≤ b) := fun b e => by rcases e with e | e | e; exact .inl (.inl e); exact .inl (.inr e); exact .inr e.1
      have hTN : ∀ b, TA p c base v0 b → N ≤ b := fun b e => by rcases e with e | e | e <;> (try omega); have := e.1; omega
      have HTN : Hid (∀ b, TA p c base v0 b → (b = p ∨ b = c) ∨ w.heap.size ≤ b) := fun b e => hbase ▸ HTS.out b e
      rw [← hv0] at HO3 HB3
      have HV0 := Lib.hid hv0
      have HOW : Hid (∀ b, some b = v0.ownBlock → base ≤ b ∧ c < b) := fun b e => by have := HO3.out.2.lt b e; omega
      have HLL : Hid (nl.length ≤ 1000000) := by show _ ≤ _; omega
      clear hv0
      go_wp2_with fail
      refine wp_gj_tail (S := SKP (S := fun b => b = p) 8 (fun κ => match κ with | 0 => KP.eq (.pointer (some ⟨c, 0, none⟩)) | 1 => KP.eq (.pointer (some ⟨c, 0, none⟩)) | 2 => KP.eq (.pointer (some ⟨c, 0, none⟩)) | 3 => KP.eq (.pointer (some ⟨c, 1, none⟩)) | 4 => KP.eq v0 | 5 => KP.eq (.pointer (some ⟨p, 0, none⟩)) | 6 => KP.pv (fun v => ∃ n r, x = .ok (n, r) ∧ v = .string (bs n) ∧ n.length ≤ 9223372036854775807) | 7 => KP.ev (fun v w => ∃ n r g, x = .ok (n, r) ∧ n.length ≤ 9223372036854775807 ∧ W0.heap.size ≤ g ∧ v = .slice (some ⟨g, 0, none⟩) 1 1 ∧ Box w g #[.string (bs n)] 9) (fun v w w' hf ⟨n, r, g, h1, h2, h3, h4, h5⟩ => ⟨n, r, g, h1, h2, h3, h4, h5.fx hf (fun e => by omega)⟩) | 8 => KP.ev (fun v w => ∃ n r, x = .ok (n, r) ∧ OwnN w base v (nl ++ [n])) (fun v w w' hf ⟨n, r, h1, h2⟩ => ⟨n, r, h1, h2.fx hf (fun b e hb => by have := hb.1; omega)⟩) | _ => KP.any)) (C := CA W0 p c en base v0 nl #[k, v0, d, i, a, b, vi, o] ts2 x) 9 (by kernel_rfl) (by decide) (by kernel_rfl) (by kernel_rfl) ?_ ?_ (GJ.start (CA.start HP3.out HO3.out HB3.out))
      · intro listed a9 w9 i9 hin hr hj
        obtain ⟨hi12, hun, _, _, _⟩ := ready_mem hr
        have h12 : i9 ∈ List.range 9 := List.mem_range.2 hin
        simp only [List.range, List.range.loop, List.mem_cons, List.not_mem_nil, or_false] at h12
        obtain ⟨f, rfl, hcm, hf⟩ := hj.opened [12, 13, 14, 15, 16, 17, 18, 19, 20, 21, 22] (by kernel_rfl)
        replace hcm : CA W0 p c en base v0 nl #[k, v0, d, i, a, b, vi, o] ts2 x listed f w9 := hcm
        rcases h12 with rfl | rfl | rfl | rfl | rfl | rfl | rfl | rfl | rfl
        · refine GJ.op hj (by kernel_rfl) hr rfl [12, 13, 14, 15, 16, 17, 18, 19, 20, 21, 22] (by kernel_rfl) (fun K hK => ?_)
          simp only [Act.put, List.foldl_cons, List.foldl_nil, List.setIfInBounds_toArray, List.set_cons_zero, List.set_cons_succ] at hK ⊢
          clear hj hf
          go_simp
          exact hK _ _ (fun k v _ _ h => h.keep (Fx.refl _ _)) (fun t ht _ => rfl) (hcm.keep (by decide) (by decide) (Below.refl _ _))
        · refine GJ.op hj (by kernel_rfl) hr rfl [12, 13, 14, 15, 16, 17, 18, 19, 20, 21, 22] (by kernel_rfl) (fun K hK => ?_)
          simp only [Act.put, List.foldl_cons, List.foldl_nil, List.setIfInBounds_toArray, List.set_cons_zero, List.set_cons_succ] at hK ⊢
          clear hj hf
          go_simp
          exact hK _ _ (fun k v _ _ h => h.keep (Fx.refl _ _)) (fun t ht _ => rfl) (hcm.keep (by decide) (by decide) (Below.refl _ _))
        · have e1 : f 13 = .pointer (some ⟨c, 0, none⟩) := hf 1 _ _ rfl rfl (up_dep hr (by kernel_rfl)) (.inl rfl)
          refine GJ.op hj (by kernel_rfl) hr rfl [12, 13, 14, 15, 16, 17, 18, 19, 20, 21, 22] (by kernel_rfl) (fun K hK => ?_)
          simp only [Act.put, List.foldl_cons, List.foldl_nil, List.setIfInBounds_toArray, List.set_cons_zero, List.set_cons_succ] at hK ⊢
          clear hj hf
          rw [e1] at hK ⊢
          clear e1
          go_simp
          exact hK _ _ (fun k v _ _ h => h.keep (Fx.refl _ _)) (fun t ht _ => rfl) (hcm.keep (by decide) (by decide) (Below.refl _ _))
        · have e1 : f 14 = .pointer (some ⟨c, 0, none⟩) := hf 2 _ _ rfl rfl (up_dep hr (by kernel_rfl)) (.inl rfl)
          refine GJ.op hj (by kernel_rfl) hr rfl [12, 13, 14, 15, 16, 17, 18, 19, 20, 21, 22] (by kernel_rfl) (fun K hK => ?_)
          simp only [Act.put, List.foldl_cons, List.foldl_nil, List.setIfInBounds_toArray, List.set_cons_zero, List.set_cons_succ] at hK ⊢
          clear hj hf
          rw [e1] at hK ⊢
          clear e1
          go_simp
          exact hK _ _ (fun k v _ _ h => h.keep (Fx.refl _ _)) (fun t ht _ => rfl) (hcm.keep (by decide) (by decide) (Below.refl _ _))
        · have e1 : f 15 = .pointer (some ⟨c, 1, none⟩) := hf 3 _ _ rfl rfl (up_dep hr (by kernel_rfl)) (.inl rfl)
          have kc : w9.cell? ⟨c, 1, none⟩ = some v0 := hcm.2.2.2.2.cell 1
          have klt := World.block_lt_of_cell? _ _ kc
          simp only at klt
          refine GJ.op hj (by kernel_rfl) hr rfl [12, 13, 14, 15, 16, 17, 18, 19, 20, 21, 22] (by kernel_rfl) (fun K hK => ?_)
          simp only [Act.put, List.foldl_cons, List.foldl_nil, List.setIfInBounds_toArray, List.set_cons_zero, List.set_cons_succ] at hK ⊢
          clear hj hf
          rw [e1] at hK ⊢
          clear e1
          go_simp
          exact hK _ _ (fun k v _ _ h => h.keep (Fx.refl _ _)) (fun t ht _ => rfl) (hcm.keep (by decide) (by decide) (Below.refl _ _))
        · refine GJ.op hj (by kernel_rfl) hr rfl [12, 13, 14, 15, 16, 17, 18, 19, 20, 21, 22] (by kernel_rfl) (fun K hK => ?_)
          simp only [Act.put, List.foldl_cons, List.foldl_nil, List.setIfInBounds_toArray, List.set_cons_zero, List.set_cons_succ] at hK ⊢
          clear hj hf
          go_simp
          exact hK _ _ (fun k v _ _ h => h.keep (Fx.refl _ _)) (fun t ht _ => rfl) (hcm.keep (by decide) (by decide) (Below.refl _ _))
        · have e1 : f 17 = .pointer (some ⟨p, 0, none⟩) := hf 5 _ _ rfl rfl (up_dep hr (by kernel_rfl)) (.inl rfl)
          have hnu : ¬ up listed 6 := not_up hun
          have hls := hj.lsize
          refine GJ.op hj (by kernel_rfl) hr rfl [12, 13, 14, 15, 16, 17, 18, 19, 20, 21, 22] (by kernel_rfl) (fun K hK => ?_)
          simp only [Act.put, List.foldl_cons, List.foldl_nil, List.setIfInBounds_toArray, List.set_cons_zero, List.set_cons_succ] at hK ⊢
          clear hj hf
          rw [e1] at hK ⊢
          clear e1
          go_simp
          have hw0 := HF3.out.new hcm.1 HTN.out
          refine (name_c N _ p ts2 en (hcm.2.1 hnu) (Nat.le_trans hN hw0.size) (HE3.out.fx hcm.1 hTN)).mono ?_
          rw [HX.out]
          rintro e w10 ⟨hf10, hr10⟩
          rcases hx10 : x with r | ⟨n, r⟩
          · rw [hx10] at hr10
            have hr10 : e = _ := hr10
            subst hr10
            exact ⟨rfl, HF3.out.new (hcm.1.trans (hf10.mono (fun b e => .inl e))) HTN.out, by rw [← HY.out, hx10]; rfl⟩
          · rw [hx10] at hr10
            obtain ⟨hp10, v, rfl, rfl, ht10⟩ := hr10
            exact hK _ _ (fun k v _ _ h => h.keep hf10) (fun _ _ _ => ⟨n, r, hx10, rfl, ht10⟩) (hcm.read (by rw [hls]; decide) hf10 hx10 hp10 hpc hbp)
        · obtain ⟨n, r, hx9, e1, hn9⟩ : ∃ n r, x = .ok (n, r) ∧ f 18 = .string (bs n) ∧ n.length ≤ 9223372036854775807 := hf 6 _ _ rfl rfl (up_dep hr (by kernel_rfl)) (.inl rfl)
          refine GJ.op hj (by kernel_rfl) hr rfl [12, 13, 14, 15, 16, 17, 18, 19, 20, 21, 22] (by kernel_rfl) (fun K hK => ?_)
          simp only [Act.put, List.foldl_cons, List.foldl_nil, List.setIfInBounds_toArray, List.set_cons_zero, List.set_cons_succ] at hK ⊢
          clear hj hf
          rw [e1] at hK ⊢
          clear e1
          go_simp
          exact hK _ _ (fun k v _ _ h => h.keep (Fx.of_below (held_alloc (Below.refl _ _)))) (fun _ _ _ => ⟨n, r, w9.heap.size, hx9, hn9, hcm.1.size, rfl, Box.new w9 _ _⟩) (hcm.keep (by decide) (by decide) (held_alloc (Below.refl _ _)))
        · have e1 : f 16 = v0 := hf 4 _ _ rfl rfl (up_dep hr (by kernel_rfl)) (.inl rfl)
          have hn8 : ¬ up listed 8 := not_up hun
          have hls := hj.lsize
          obtain ⟨n, r, g, hx9, hn9, hg9, e2, hb9⟩ : ∃ n r g, x = .ok (n, r) ∧ n.length ≤ 9223372036854775807 ∧ W0.heap.size ≤ g ∧ f 19 = .slice (some ⟨g, 0, none⟩) 1 1 ∧ Box w9 g #[.string (bs n)] 9 := hf 7 _ _ rfl rfl (up_dep hr (by kernel_rfl)) (.inr (.inl hn8))
          refine GJ.op hj (by kernel_rfl) hr rfl [12, 13, 14, 15, 16, 17, 18, 19, 20, 21, 22] (by kernel_rfl) (fun K hK => ?_)
          simp only [Act.put, List.foldl_cons, List.foldl_nil, List.setIfInBounds_toArray, List.set_cons_zero, List.set_cons_succ] at hK ⊢
          clear hj hf
          rw [e1] at hK ⊢
          clear e1
          rw [e2] at hK ⊢
          clear e2
          have hown := hcm.2.2.2.1 hn8
          refine step_appC ?q3 (.tmp 16) (.tmp 19) 40 ?q4 base 9 1 16 _ Tryz.underlying40 infoS rfl (by decide) (by decide) v0 (nl.map fun n => [Value.string (bs n)]) [Value.string (bs n)] ?q1 hown.2 rfl (by simp [Value.oneCell']) ⟨g, 0, none⟩ 1 ?q2 hb9.news (by rw [List.length_map]; exact HLL.out) (Nat.le_trans hb0 hcm.1.size) ?_
          case q1 => rfl
          case q2 => rfl
          case q3 => rfl
          case q4 => rfl
          intro v11 w11 hown11 hf11 hor11
          exact hK _ _ (fun k v hne _ h => h.app hne (by rw [hls]; decide)) (fun _ _ _ => ⟨n, r, hx9, hown.snoc hn9 hown11⟩) (hcm.app (by rw [hls]; decide) hf11 (fun b e => HOW.out b e) hpc)
      · intro listed a9 w10 hu hj
        obtain ⟨f, rfl, hcm, hf⟩ := hj.opened [12, 13, 14, 15, 16, 17, 18, 19, 20, 21, 22] (by kernel_rfl)
        replace hcm : CA W0 p c en base v0 nl #[k, v0, d, i, a, b, vi, o] ts2 x listed f w10 := hcm
        have e0 : f 12 = .pointer (some ⟨c, 0, none⟩) := hf 0 _ _ rfl rfl (hu 0 (by omega)) (.inl rfl)
        obtain ⟨n, r, hx9, hown⟩ : ∃ n r, x = .ok (n, r) ∧ OwnN w10 base (f 20) (nl ++ [n]) := hf 8 _ _ rfl rfl (hu 8 (by omega)) (.inr (.inr rfl))
        obtain ⟨a', r', hx8, hp⟩ := hcm.2.2.1 (hu 6 (by omega))
        obtain ⟨rfl, rfl⟩ : n = a' ∧ r = r' := by rw [hx9] at hx8; injection hx8 with hx8; injection hx8 with e1 e2; exact ⟨e1, e2⟩
        have HP10 := Lib.hid hp
        have HF10 := Lib.hid hcm.1
        have hbx := hcm.2.2.2.2
        have HBX := Lib.hid hbx
        have HOW10 := Lib.hid hown
        have HX9 := Lib.hid hx9
        have k1 : w10.cell? ⟨c, 1, none⟩ = some v0 := hbx.cell 1
        rw [HV0.out] at k1
        have kf := hbx.frozen 1
        clear hcm hf hj hu hp hx8 hx9 hown hbx
        simp only [List.foldl_cons, List.foldl_nil, List.setIfInBounds_toArray, List.set_cons_zero, List.set_cons_succ]
        rw [e0]
        clear e0
        obtain ⟨v', hv'⟩ : ∃ v', f 20 = v' := ⟨_, rfl⟩
        rw [hv'] at HOW10 ⊢
        clear hv'
        generalize f 13 = g13
        generalize f 14 = g14
        generalize f 15 = g15
        generalize f 16 = g16
        generalize f 17 = g17
        generalize f 18 = g18
        generalize f 19 = g19
        generalize f 21 = g21
        generalize f 22 = g22
        clear f
        obtain ⟨q', cap', rfl, hq1, hq2, hq3⟩ := HOW10.out.shape
        have HLN := Lib.hid hq1
        clear hq1 hq2 hq3
        simp only [List.drop_succ_cons, List.drop_zero]
        go_wp2_with fail
        
        obtain ⟨w11, hw11⟩ : ∃ w11, w11 = w10.setCell ⟨c, 1, none⟩ (.slice q' (nl.length + 1) cap') := ⟨_, rfl⟩
        have hf11 : Fx (fun g => g = c) w10 w11 := hw11 ▸ Fx.set w10 c 1 _
        have hll' : (nl ++ [n]).length = nl.length + 1 := by simp
        have HB11 : Hid (Box w11 c #[k, .slice q' (nl ++ [n]).length cap', d, i, a, b, vi, o] 43) := by
          show Box _ _ _ _
          rw [hw11, hll']
          simpa using HBX.out.set 1 (.slice q' (nl.length + 1) cap')
        have HP11 := Lib.hid (HP10.out.fx hf11 (fun b e => e ▸ hpc))
        have hfa : Fx (fun g => g = p ∨ g = c) w w10 := HF3.out.new HF10.out HTN.out
        have HF11 := Lib.hid (hfa.trans (hf11.mono (fun b e => .inr e)))
        have HE11 := Lib.hid ((HE3.out.fx HF10.out hTN).fx hf11 (fun b e => hS b (.inr e)))
        have HO11 := Lib.hid (HOW10.out.fx hf11 (fun b e hb => by have := hb.1; omega))
        have hlr3 : r.length + 1 ≤ ts2.length := by
          obtain ⟨t, e, _⟩ := nameP_len (HX.out.trans HX9.out)
          rw [e]; simp
        have HY11 : Hid ((andP (moreP r) fun l r => (.ok ((nl ++ [n]) ++ l, r) : PR _)) = y) := by
          show _ = _
          rw [← HY.out, HX9.out]
          simp [andP]
        rw [← hw11]
        clear hw11 hf11 hfa
        go_roundg (r.length + 1)
        case measure => omega
        case rel => exact ⟨r, _, nl ++ [n], rfl, by rw [hll']; omega, HY11.out, HP11.out, HE11.out, HF11.out, hbase ▸ HO11.out, HB11.out⟩
end Go.Proofs.YtganlldidjbpiaaGreatDoor

namespace Go.Proofs.YtganlldidjbpiaaGreatDoor
open Go.RowKit Go.Shelf

def rdV (v : Value) : Option (DataW Value × List MemPlace) := some (.held v, [])
theorem mapS : Maps.Keyed Tryz.prog 9 := Maps.string_keyed Tryz.underlying9
theorem key_str (s : List UInt8) (h : s.length ≤ 9223372036854775807) : keyOf Tryz.prog 9 (.string (bs s)) = some (.string s) := WideMaps.keyOf_string_mk Tryz.underlying9 (by rw [bs_size]; unfold maxLen; omega)
def rdrV (k g : Nat) : Value := .agg #[.int .u8 (k : Int), .func (.func g) #[] #[]]
def noR : Value := .agg #[.int .u8 0, .nilFunc]
theorem zeroR (w : World) : (zeroValue 107).run Tryz.prog w = .ok noR w := by kernel_rfl
def look : List (List UInt8 × Nat × Nat) → List UInt8 → Option (Nat × Nat)
  | [], _ => none
  | (a, b) :: l, s => if s = a then some b else look l s
/-- What a word's lookup yields. -/
def hitV : Option (Nat × Nat) → Value
  | none => noR
  | some (k, g) => rdrV k g
/-- Block M is a map from words to readers. -/
def MapR (w : World) (M : Nat) (f : List UInt8 → Option (Nat × Nat)) : Prop := ∃ D n, w.ownsMap Tryz.prog 9 rdV M n D ∧ n ≤ 100 ∧ ∀ s, D.atKey (.string s) (.held noR) = .held (hitV (f s))
def MapN (w : World) (M n : Nat) (l : List (List UInt8 × Nat × Nat)) : Prop := ∃ D, w.ownsMap Tryz.prog 9 rdV M n D ∧ ∀ s, D.atKey (.string s) (.held noR) = .held (hitV (look l s))
theorem MapR.made (w : World) : MapN (w.alloc (.map #[] 0)) w.heap.size 0 [] := ⟨_, World.ownsMap_made w Tryz.prog 9 rdV, fun s => rfl⟩
theorem MapN.ins {w : World} {M n : Nat} {l : List (List UInt8 × Nat × Nat)} (h : MapN w M n l) (s : List UInt8) (k g : Nat) (hn : n < 100) (hs : s.length ≤ 100) :
    ∃ w', (Instr.mapUpdate 72 (.map (some M)) (.string (bs s)) (rdrV k g)).run Tryz.prog w = .ok () w' ∧ MapN w' M (n + 1) ((s, k, g) :: l) ∧ Fx (fun b => b = M) w w' := by
  obtain ⟨D, h1, h2⟩ := h
  obtain ⟨w', hr, hown, hg⟩ := h1.update mapS Tryz.underlying72 (show n < maxLen by unfold maxLen; omega) (key_str s (by omega)) (show rdV (rdrV k g) = some (.held (rdrV k g), []) from rfl)
  refine ⟨w', hr, ⟨_, hown, fun t => ?_⟩, (Fx.grown hg).mono (fun b e => by injection e)⟩
  have hm : Maps.IsMap D := h1.isMap
  by_cases e : t = s
  · subst e
    rw [Maps.atKey_put_same hm (show Go.WideAt.IsKeyLit (.string t) from trivial)]
    simp [look, hitV]
  · rw [Maps.atKey_put_other (fun e' => e (by injection e')), h2]
    simp [look, e]
theorem MapR.look {w : World} {M : Nat} {f : List UInt8 → Option (Nat × Nat)} (h : MapR w M f) (s : List UInt8) (hs : s.length ≤ 9223372036854775807) : (Instr.lookup 72 (.map (some M)) (.string (bs s)) false).run Tryz.prog w = .ok (hitV (f s)) w := by
  obtain ⟨D, n, h1, _, h2⟩ := h
  obtain ⟨v, ps, hrun, hv⟩ := h1.lookup mapS Tryz.underlying72 (zeroR w) (zd := .held noR) (zp := []) rfl (key_str s hs)
  rw [h2] at hv
  have hv : v = hitV (f s) := DataW.held.inj (congrArg Prod.fst (Option.some.inj hv))
  rw [hrun, hv]
theorem MapR.fx {S : Nat → Prop} {w W : World} {M : Nat} {f : List UInt8 → Option (Nat × Nat)} (h : MapR w M f) (hf : Fx S w W) (hS : ¬ S M) : MapR W M f := by
  obtain ⟨D, n, ⟨es, clock, hb, F, hs, e⟩, hn, h2⟩ := h
  have hlt : M < w.heap.size := (Array.getElem?_eq_some_iff.1 hb).1
  exact ⟨D, n, ⟨es, clock, (hf.block M hlt hS).trans hb, F, hs, e⟩, hn, h2⟩
theorem MapR.lt {w : World} {M : Nat} {f : List UInt8 → Option (Nat × Nat)} (h : MapR w M f) : M < w.heap.size := by
  obtain ⟨D, n, ⟨es, clock, hb, F, hs, e⟩, hn, h2⟩ := h
  exact (Array.getElem?_eq_some_iff.1 hb).1
theorem MapN.to {w : World} {M n : Nat} {l : List (List UInt8 × Nat × Nat)} {f : List UInt8 → Option (Nat × Nat)} (h : MapN w M n l) (hn : n ≤ 100) (hf : ∀ s, Proofs.YtganlldidjbpiaaGreatDoor.look l s = f s) : MapR w M f := by
  obtain ⟨D, h1, h2⟩ := h
  exact ⟨D, n, h1, hn, fun s => by rw [h2, hf]⟩
def topL : List (List UInt8 × Nat × Nat) := [(sCap, 5, 83), (sBlast, 4, 82), (sApprove, 3, 81), (sWindow, 2, 80), (sService, 1, 79)]
set_option maxRecDepth 100000 in
set_option maxHeartbeats 4000000 in
theorem clauses_c (w : World) : Calls Tryz.prog 39 #[] w fun e w' => ∃ M, e = .returned (.map (some M)) ∧ w.heap.size ≤ M ∧ MapR w' M (look topL) ∧ Below w.heap.size w w' := by
  have hmm := run_makeMap (P := Tryz.prog) 72 w
  have H0 := MapR.made w
  have B0 : Below w.heap.size w (w.alloc (.map #[] 0)) := held_alloc (Below.refl _ _)
  obtain ⟨w1, hr1, H1, hf1⟩ := H0.ins sService 1 79 (by decide) (by decide)
  have hr1 : (Instr.mapUpdate 72 (.map (some w.heap.size)) (.string ⟨#[115, 101, 114, 118, 105, 99, 101]⟩) (.agg #[.int .u8 1, .func (.func 79) #[] #[]])).run Tryz.prog (w.alloc (.map #[] 0)) = .ok () w1 := hr1
  have B1 : Below w.heap.size w w1 := B0.trans (hf1.toBelow B0.size (fun b e => by omega))
  obtain ⟨w2, hr2, H2, hf2⟩ := H1.ins sWindow 2 80 (by decide) (by decide)
  have hr2 : (Instr.mapUpdate 72 (.map (some w.heap.size)) (.string ⟨#[119, 105, 110, 100, 111, 119]⟩) (.agg #[.int .u8 2, .func (.func 80) #[] #[]])).run Tryz.prog w1 = .ok () w2 := hr2
  have B2 : Below w.heap.size w w2 := B1.trans (hf2.toBelow B1.size (fun b e => by omega))
  obtain ⟨w3, hr3, H3, hf3⟩ := H2.ins sApprove 3 81 (by decide) (by decide)
  have hr3 : (Instr.mapUpdate 72 (.map (some w.heap.size)) (.string ⟨#[97, 112, 112, 114, 111, 118, 101]⟩) (.agg #[.int .u8 3, .func (.func 81) #[] #[]])).run Tryz.prog w2 = .ok () w3 := hr3
  have B3 : Below w.heap.size w w3 := B2.trans (hf3.toBelow B2.size (fun b e => by omega))
  obtain ⟨w4, hr4, H4, hf4⟩ := H3.ins sBlast 4 82 (by decide) (by decide)
  have hr4 : (Instr.mapUpdate 72 (.map (some w.heap.size)) (.string ⟨#[98, 108, 97, 115, 116]⟩) (.agg #[.int .u8 4, .func (.func 82) #[] #[]])).run Tryz.prog w3 = .ok () w4 := hr4
  have B4 : Below w.heap.size w w4 := B3.trans (hf4.toBelow B3.size (fun b e => by omega))
  obtain ⟨w5, hr5, H5, hf5⟩ := H4.ins sCap 5 83 (by decide) (by decide)
  have hr5 : (Instr.mapUpdate 72 (.map (some w.heap.size)) (.string ⟨#[99, 97, 112]⟩) (.agg #[.int .u8 5, .func (.func 83) #[] #[]])).run Tryz.prog w4 = .ok () w5 := hr5
  have B5 : Below w.heap.size w w5 := B4.trans (hf5.toBelow B4.size (fun b e => by omega))
  have HR : Hid (MapR w5 w.heap.size (look topL)) := H5.to (by decide) (fun s => rfl)
  have HB := Lib.hid B5
  clear H0 B0 H1 B1 H2 B2 H3 B3 H4 B4 H5 B5 hf1 hf2 hf3 hf4 hf5
  go_enter Tryz.func39, Tryz.ntmps39
  go_wp2_with fail
  go_ret
  exact ⟨_, rfl, Nat.le_refl _, HR.out, HB.out⟩
def itemL : List (List UInt8 × Nat × Nat) := [(sNear, 11, 125), (sApart, 10, 124), (sSpread, 9, 123), (sFirmware, 12, 82), (sLeast, 8, 82), (sReplicas, 7, 82), (sCores, 6, 82)]
set_option maxRecDepth 100000 in
set_option maxHeartbeats 4000000 in
theorem items_c (w : World) : Calls Tryz.prog 110 #[] w fun e w' => ∃ M, e = .returned (.map (some M)) ∧ w.heap.size ≤ M ∧ MapR w' M (look itemL) ∧ Below w.heap.size w w' := by
  have hmm := run_makeMap (P := Tryz.prog) 72 w
  have H0 := MapR.made w
  have B0 : Below w.heap.size w (w.alloc (.map #[] 0)) := held_alloc (Below.refl _ _)
  obtain ⟨w1, hr1, H1, hf1⟩ := H0.ins sCores 6 82 (by decide) (by decide)
  have hr1 : (Instr.mapUpdate 72 (.map (some w.heap.size)) (.string ⟨#[99, 111, 114, 101, 115]⟩) (.agg #[.int .u8 6, .func (.func 82) #[] #[]])).run Tryz.prog (w.alloc (.map #[] 0)) = .ok () w1 := hr1
  have B1 : Below w.heap.size w w1 := B0.trans (hf1.toBelow B0.size (fun b e => by omega))
  obtain ⟨w2, hr2, H2, hf2⟩ := H1.ins sReplicas 7 82 (by decide) (by decide)
  have hr2 : (Instr.mapUpdate 72 (.map (some w.heap.size)) (.string ⟨#[114, 101, 112, 108, 105, 99, 97, 115]⟩) (.agg #[.int .u8 7, .func (.func 82) #[] #[]])).run Tryz.prog w1 = .ok () w2 := hr2
  have B2 : Below w.heap.size w w2 := B1.trans (hf2.toBelow B1.size (fun b e => by omega))
  obtain ⟨w3, hr3, H3, hf3⟩ := H2.ins sLeast 8 82 (by decide) (by decide)
  have hr3 : (Instr.mapUpdate 72 (.map (some w.heap.size)) (.string ⟨#[108, 101, 97, 115, 116]⟩) (.agg #[.int .u8 8, .func (.func 82) #[] #[]])).run Tryz.prog w2 = .ok () w3 := hr3
  have B3 : Below w.heap.size w w3 := B2.trans (hf3.toBelow B2.size (fun b e => by omega))
  obtain ⟨w4, hr4, H4, hf4⟩ := H3.ins sFirmware 12 82 (by decide) (by decide)
  have hr4 : (Instr.mapUpdate 72 (.map (some w.heap.size)) (.string ⟨#[102, 105, 114, 109, 119, 97, 114, 101]⟩) (.agg #[.int .u8 12, .func (.func 82) #[] #[]])).run Tryz.prog w3 = .ok () w4 := hr4
  have B4 : Below w.heap.size w w4 := B3.trans (hf4.toBelow B3.size (fun b e => by omega))
  obtain ⟨w5, hr5, H5, hf5⟩ := H4.ins sSpread 9 123 (by decide) (by decide)
  have hr5 : (Instr.mapUpdate 72 (.map (some w.heap.size)) (.string ⟨#[115, 112, 114, 101, 97, 100]⟩) (.agg #[.int .u8 9, .func (.func 123) #[] #[]])).run Tryz.prog w4 = .ok () w5 := hr5
  have B5 : Below w.heap.size w w5 := B4.trans (hf5.toBelow B4.size (fun b e => by omega))
  obtain ⟨w6, hr6, H6, hf6⟩ := H5.ins sApart 10 124 (by decide) (by decide)
  have hr6 : (Instr.mapUpdate 72 (.map (some w.heap.size)) (.string ⟨#[97, 112, 97, 114, 116]⟩) (.agg #[.int .u8 10, .func (.func 124) #[] #[]])).run Tryz.prog w5 = .ok () w6 := hr6
  have B6 : Below w.heap.size w w6 := B5.trans (hf6.toBelow B5.size (fun b e => by omega))
  obtain ⟨w7, hr7, H7, hf7⟩ := H6.ins sNear 11 125 (by decide) (by decide)
  have hr7 : (Instr.mapUpdate 72 (.map (some w.heap.size)) (.string ⟨#[110, 101, 97, 114]⟩) (.agg #[.int .u8 11, .func (.func 125) #[] #[]])).run Tryz.prog w6 = .ok () w7 := hr7
  have B7 : Below w.heap.size w w7 := B6.trans (hf7.toBelow B6.size (fun b e => by omega))
  have HR : Hid (MapR w7 w.heap.size (look itemL)) := H7.to (by decide) (fun s => rfl)
  have HB := Lib.hid B7
  clear H0 B0 H1 B1 H2 B2 H3 B3 H4 B4 H5 B5 H6 B6 H7 B7 hf1 hf2 hf3 hf4 hf5 hf6 hf7
  go_enter Tryz.func110, Tryz.ntmps110
  go_wp2_with fail
  go_ret
  exact ⟨_, rfl, Nat.le_refl _, HR.out, HB.out⟩
end Go.Proofs.YtganlldidjbpiaaGreatDoor
