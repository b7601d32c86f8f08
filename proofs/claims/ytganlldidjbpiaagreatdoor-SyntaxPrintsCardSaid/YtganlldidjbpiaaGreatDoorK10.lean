/- Walks of package syntax: a clause or an item.
   Walks of package syntax: a clause or an item, by the map of readers.
   Syntax, memory words: a row of clauses that grows by one; the items of a service as have tells them. -/
import Derived.Test.YtganlldidjbpiaaGreatDoorK09
set_option linter.unusedVariables false
namespace Go.Proofs.YtganlldidjbpiaaGreatDoor
open Go.RowKit Go.Shelf

theorem Rd.map {α β : Type} {S : Nat → Prop} {p : Nat} {en : Int} {w w' : World} {V : α → Value → World → Prop} {V' : β → Value → World → Prop} {x : PR α} {g : α → β} {e : Ending} (h : Rd S p en w V x e w') (hv : ∀ a v, V a v w' → V' (g a) v w') : Rd S p en w V' (andP x fun a r => .ok (g a, r)) e w' := by
  obtain ⟨hf, h⟩ := h
  refine ⟨hf, ?_⟩
  rcases x with r | ⟨a, r⟩
  · exact h
  · obtain ⟨hp, v, e, hv'⟩ := h
    exact ⟨hp, v, e, hv a v hv'⟩
/-- A clause's cells when its reader is called. -/
def zc (k : Nat) (o : Int) : Array Value := #[.int .u8 (k : Int), .slice none 0 0, .int .u8 0, .int .i64 0, .int .i64 0, .int .i64 0, .slice none 0 0, .int .i64 o]
/-- What a reader's call leaves: the clause's cells. -/
def VC (c B k : Nat) (cl : Cl) (v : Value) (w' : World) : Prop := v = .tuple #[] ∧ cl.kind = k ∧ ∃ vn vi, Box w' c (clV cl vn vi).toArray 43 ∧ HasC (fun b => B ≤ b) w' vn vi cl
/-- Function g reads the rest of a clause of kind k. -/
def RdrC (N g k : Nat) (body : Int → List Tok → PR Cl) : Prop := ∀ (w : World) (p c : Nat) (ts : List Tok) (en o : Int), PS w p ts en → Box w c (zc k o) 43 → p < c → N ≤ w.heap.size → N ≤ p → Wds N w → ts.length ≤ 100000 → In64 o →
  Calls Tryz.prog g #[.pointer (some ⟨p, 0, none⟩), .pointer (some ⟨c, 0, none⟩)] w (Rd (fun b => b = p ∨ b = c) p en w (VC c w.heap.size k) (body o ts))
theorem In64.zero : In64 0 := ⟨by omega, by omega⟩
theorem hasC_flat {D : Nat → Prop} {w : World} {cl : Cl} (hn : nums cl) (h1 : cl.names = []) (h2 : cl.items = []) : HasC D w (.slice none 0 0) (.slice none 0 0) cl :=
  hasC_iff.2 ⟨hn, h1 ▸ SlN.nil D w, h2 ▸ SlC.nil D w⟩
theorem rdr_amount (N k : Nat) (hk : k < 256) : RdrC N 82 k (fun o ts => andP (numP ts) fun a r => .ok (.mk k [] 0 0 a 0 [] o, r)) := by
  intro w p c ts en o hp hb hpc hN hNp he hl ho
  refine (amount_c N w p c ts en _ _ _ _ _ _ _ _ hp hb hpc hN hNp he).mono fun e w' hr => ?_
  have := hr.map (V' := VC c w.heap.size k) (g := fun a => .mk k [] 0 0 a 0 [] o) (fun a v ⟨h1, h2, h3⟩ => ⟨h1, rfl, _, _, h2, hasC_flat ⟨hk, Nat.zero_lt_of_lt (show 0 < 256 by omega), In64.zero, h3, In64.zero, ho⟩ rfl rfl⟩)
  have e2 : (andP (amountP ts) fun a r => (.ok (.mk k [] 0 0 a 0 [] o, r) : PR Cl)) = andP (numP ts) fun a r => .ok (.mk k [] 0 0 a 0 [] o, r) := by
    unfold amountP
    rcases numP ts with r | ⟨a, r⟩ <;> rfl
  rw [e2] at this
  exact this
theorem rdr_area (N : Nat) : RdrC N 81 3 (bodyT 3) := by
  intro w p c ts en o hp hb hpc hN hNp he hl ho
  refine (area_c N w p c ts en _ _ _ _ _ _ _ _ hp hb hpc hN hNp he).mono fun e w' hr => ?_
  have := hr.map (V' := VC c w.heap.size 3) (g := fun (y : Nat × Int) => .mk 3 [] y.1 y.2 0 0 [] o) (fun a v ⟨h1, h2, h3, h4⟩ => ⟨h1, rfl, _, _, h2, hasC_flat ⟨show 3 < 256 by omega, h3, h4, In64.zero, In64.zero, ho⟩ rfl rfl⟩)
  have e2 : (andP (areaP ts) fun y r => (.ok (.mk 3 [] y.1 y.2 0 0 [] o, r) : PR Cl)) = bodyT 3 o ts := by
    unfold areaP
    show _ = andP (scopeP ts) _
    rcases scopeP ts with r | ⟨d, r⟩
    · rfl
    · show _ = andP (numP r) _
      rcases h : numP r with r' | ⟨i, r'⟩ <;> simp [andP, h]
  rw [e2] at this
  exact this
theorem rdr_window (N : Nat) : RdrC N 80 2 (bodyT 2) := by
  intro w p c ts en o hp hb hpc hN hNp he hl ho
  refine (window_c N w p c ts en _ _ _ _ _ _ _ _ hp hb hpc hN hNp he).mono fun e w' hr => ?_
  have := hr.map (V' := VC c w.heap.size 2) (g := fun (y : (Nat × Int) × Int × Int) => .mk 2 [] y.1.1 y.1.2 y.2.1 y.2.2 [] o) (fun a v ⟨h1, h2, ⟨h3, h4⟩, h5, h6⟩ => ⟨h1, rfl, _, _, h2, hasC_flat ⟨show 2 < 256 by omega, h3, h4, h5, h6, ho⟩ rfl rfl⟩)
  have e2 : (andP (windowP ts) fun y r => (.ok (.mk 2 [] y.1.1 y.1.2 y.2.1 y.2.2 [] o, r) : PR Cl)) = bodyT 2 o ts := by
    unfold windowP areaP
    show _ = andP (scopeP ts) _
    rcases scopeP ts with r | ⟨d, r⟩
    · rfl
    · show _ = andP (numP r) _
      rcases h : numP r with r' | ⟨i, r'⟩
      · simp [andP, h]
      · simp only [andP, h]
        rcases h1 : wantP sFrom r' with r' | ⟨i1, r'⟩
        · rfl
        · simp only
          rcases h2 : numP r' with r' | ⟨i2, r'⟩
          · rfl
          · simp only
            rcases h3 : wantP sTo r' with r' | ⟨i3, r'⟩
            · rfl
            · simp only
              rcases h4 : numP r' with r' | ⟨i4, r'⟩ <;> rfl
  rw [e2] at this
  exact this
theorem rdr_cap (N : Nat) : RdrC N 83 5 (bodyT 5) := by
  intro w p c ts en o hp hb hpc hN hNp he hl ho
  refine (cap_c N w p c ts en _ _ _ _ _ _ _ _ hp hb hpc hN hNp he).mono fun e w' hr => ?_
  have := hr.map (V' := VC c w.heap.size 5) (g := fun (y : Int × Int) => .mk 5 [] 0 y.1 y.2 0 [] o) (fun a v ⟨h1, h2, h3, h4⟩ => ⟨h1, rfl, _, _, h2, hasC_flat ⟨show 5 < 256 by omega, show 0 < 256 by omega, h3, h4, In64.zero, ho⟩ rfl rfl⟩)
  have e2 : (andP (capP ts) fun y r => (.ok (.mk 5 [] 0 y.1 y.2 0 [] o, r) : PR Cl)) = bodyT 5 o ts := by
    unfold capP
    show _ = andP (wantP sFeed ts) _
    rcases wantP sFeed ts with r | ⟨d, r⟩
    · rfl
    · show _ = andP (numP r) _
      simp only [andP]
      rcases h2 : numP r with r' | ⟨i2, r'⟩
      · rfl
      · simp only
        rcases h3 : wantP sAt r' with r' | ⟨i3, r'⟩
        · rfl
        · simp only
          rcases h4 : numP r' with r' | ⟨i4, r'⟩ <;> rfl
  rw [e2] at this
  exact this
theorem rdr_spread (N : Nat) : RdrC N 123 9 (bodyI 9) := by
  intro w p c ts en o hp hb hpc hN hNp he hl ho
  refine (spread_c N w p c ts en _ _ _ _ _ _ _ _ hp hb hpc hN hNp he).mono fun e w' hr => ?_
  have := hr.map (V' := VC c w.heap.size 9) (g := fun (y : Int × Nat) => .mk 9 [] y.2 0 y.1 0 [] o) (fun a v ⟨h1, h2, h3, h4⟩ => ⟨h1, rfl, _, _, h2, hasC_flat ⟨show 9 < 256 by omega, h4, In64.zero, h3, In64.zero, ho⟩ rfl rfl⟩)
  have e2 : (andP (spreadP ts) fun y r => (.ok (.mk 9 [] y.2 0 y.1 0 [] o, r) : PR Cl)) = bodyI 9 o ts := by
    unfold spreadP
    show _ = andP (numP ts) _
    rcases numP ts with r | ⟨d, r⟩
    · rfl
    · simp only [andP]
      rcases h2 : wantP sPer r with r' | ⟨i2, r'⟩
      · rfl
      · simp only
        rcases h3 : scopeP r' with r' | ⟨i3, r'⟩ <;> rfl
  rw [e2] at this
  exact this
theorem rdr_near (N : Nat) : RdrC N 125 11 (bodyI 11) := by
  intro w p c ts en o hp hb hpc hN hNp he hl ho
  refine (near_c N w p c ts en _ _ _ _ _ _ _ hp hb hpc hN hNp he).mono fun e w' hr => ?_
  have := hr.map (V' := VC c w.heap.size 11) (g := fun (y : List UInt8 × Int) => .mk 11 [y.1] 0 0 y.2 0 [] o) (fun a v ⟨h1, vn, h2, h3, h4⟩ => ⟨h1, rfl, _, _, h2, hasC_iff.2 ⟨⟨show 11 < 256 by omega, show 0 < 256 by omega, In64.zero, h4, In64.zero, ho⟩, h3, SlC.nil _ _⟩⟩)
  have e2 : (andP (nearP ts) fun y r => (.ok (.mk 11 [y.1] 0 0 y.2 0 [] o, r) : PR Cl)) = bodyI 11 o ts := by
    unfold nearP
    show _ = andP (nameP ts) _
    rcases nameP ts with r | ⟨d, r⟩
    · rfl
    · simp only [andP]
      rcases h2 : wantP sWithin r with r' | ⟨i2, r'⟩
      · rfl
      · simp only
        rcases h3 : numP r' with r' | ⟨i3, r'⟩ <;> rfl
  rw [e2] at this
  exact this
theorem rdr_apart (N : Nat) : RdrC N 124 10 (bodyI 10) := by
  intro w p c ts en o hp hb hpc hN hNp he hl ho
  refine (apart_c N w p c ts en _ _ _ _ _ _ _ hp hb hpc hN hNp he hl).mono fun e w' hr => ?_
  have := hr.map (V' := VC c w.heap.size 10) (g := fun y => .mk 10 y 0 0 0 0 [] o) (fun a v ⟨h1, vn, h2, h3⟩ => ⟨h1, rfl, _, _, h2, hasC_iff.2 ⟨⟨show 10 < 256 by omega, show 0 < 256 by omega, In64.zero, In64.zero, In64.zero, ho⟩, h3, SlC.nil _ _⟩⟩)
  have e2 : (andP (apartP ts) fun y r => (.ok (.mk 10 y 0 0 0 0 [] o, r) : PR Cl)) = bodyI 10 o ts := by
    unfold apartP
    show _ = andP (nameP ts) _
    rcases nameP ts with r | ⟨d, r⟩
    · rfl
    · simp only [andP]
      rcases h2 : moreP r with r' | ⟨i2, r'⟩ <;> rfl
  rw [e2] at this
  exact this
end Go.Proofs.YtganlldidjbpiaaGreatDoor

namespace Go.Proofs.YtganlldidjbpiaaGreatDoor
open Go.RowKit Go.Shelf

theorem run_fieldR0 (w : World) (k : Int) (v : Value) : Sem.run Tryz.prog (Instr.field 107 (.agg #[.int .u8 k, v]) 0) w = .ok (.int .u8 k) w := by kernel_rfl
theorem run_fieldR1 (w : World) (k : Int) (g : Nat) : Sem.run Tryz.prog (Instr.field 107 (.agg #[.int .u8 k, .func (.func g) #[] #[]]) 1) w = .ok (.func (.func g) #[] #[]) w := by kernel_rfl
theorem run_fieldR2 (w : World) (k : Int) : Sem.run Tryz.prog (Instr.field 107 (.agg #[.int .u8 k, .nilFunc]) 1) w = .ok .nilFunc w := by kernel_rfl
theorem run_neqF0 (w : World) : Sem.run Tryz.prog (binOp .neq 105 .nilFunc .nilFunc) w = .ok (.bool false) w := by kernel_rfl
theorem run_neqF1 (w : World) (g : Nat) : Sem.run Tryz.prog (binOp .neq 105 (.func (.func g) #[] #[]) .nilFunc) w = .ok (.bool true) w := by kernel_rfl
attribute [local go_sem ↓] run_fieldR0 run_fieldR1 run_fieldR2 run_neqF0 run_neqF1
/-- Words whose reader is there. -/
def known (f : List UInt8 → Option (Nat × Nat)) (t : Tok) : Bool := (f t.text).isSome
set_option maxRecDepth 100000 in
set_option maxHeartbeats 2000000 in
theorem one1_c (w : World) (t : Tok) (b M : Nat) (f : List UInt8 → Option (Nat × Nat)) (h : w.cell? ⟨b, 0, none⟩ = some (.map (some M))) (hm : MapR w M f) (ht : t.text.length ≤ 9223372036854775807) :
    Calls Tryz.prog 77 #[tokV t, .pointer (some ⟨b, 0, none⟩)] w (RetB w (known f t)) := by
  obtain ⟨k, x, n, o⟩ := t
  unfold tokV
  have hlt : b < w.heap.size := World.block_lt_of_cell? _ _ h
  obtain ⟨W0, hW⟩ : ∃ W0, W0 = w.alloc (.cells #[.int .u8 (k : Int), .string (bs x), .int .i64 n, .int .i64 o] 37) := ⟨_, rfl⟩
  have hb0 : Below w.heap.size w W0 := hW ▸ held_alloc (Below.refl _ w)
  have HB := Lib.hid hb0
  have bx : Box W0 w.heap.size #[.int .u8 (k : Int), .string (bs x), .int .i64 n, .int .i64 o] 37 := hW ▸ Box.new w _ _
  obtain ⟨c0, c1, c2, c3⟩ := bx.cells4
  have cm := keep_cell hb0 h
  have hl := (hm.fx (S := fun _ => False) (Fx.of_below hb0) (fun e => e)).look x ht
  have hlt0 := World.block_lt_of_cell? _ _ cm
  simp only at hlt0
  obtain ⟨B, hB⟩ : ∃ B, known f ⟨k, x, n, o⟩ = B := ⟨_, rfl⟩
  rw [hB]
  unfold known at hB
  simp only at hB
  clear hb0 bx h hm
  rcases hf : f x with _ | ⟨kk, g⟩
  · rw [hf] at hB hl
    have HE : Hid (false = B) := hB
    unfold hitV noR at hl
    clear hB hf
    go_enter Tryz.func77, Tryz.ntmps77
    go_upto_region 1 with fail
    rw [← hW]
    clear hW
    go_wp2_with fail
    go_ret
    exact ⟨ret_bool HE.out, HB.out⟩
  · rw [hf] at hB hl
    have HE : Hid (true = B) := hB
    unfold hitV rdrV at hl
    clear hB hf
    go_enter Tryz.func77, Tryz.ntmps77
    go_upto_region 1 with fail
    rw [← hW]
    clear hW
    go_wp2_with fail
    go_ret
    exact ⟨ret_bool HE.out, HB.out⟩
theorem cls_one {w : World} {b M : Nat} {f : List UInt8 → Option (Nat × Nat)} (h : w.cell? ⟨b, 0, none⟩ = some (.map (some M))) (hm : MapR w M f) : ClsAt w (.func (.func 77) #[] #[.pointer (some ⟨b, 0, none⟩)]) (known f) :=
  ⟨_, _, rfl, enters_of Tryz.func77 (by kernel_rfl) rfl, fun W t hb ht => one1_c W t b M f (keep_cell hb h) (hm.fx (S := fun _ => False) (Fx.of_below hb) (fun e => e)) ht.2.2.2⟩
/-- A clause or an item: K tells the kind by the word, body reads the rest. -/
def oneP (K : List UInt8 → Nat) (body : Nat → Int → List Tok → PR Cl) : List Tok → PR Cl
  | [] => .error []
  | t :: r => if K t.text = 0 then .error (t :: r) else if K t.text = 1 then body 1 t.off r else semiP (body (K t.text) t.off r)
theorem oneP_at (K : List UInt8 → Nat) (body : Nat → Int → List Tok → PR Cl) (t : Tok) (r : List Tok) : oneP K body (t :: r) = if K t.text = 0 then .error (t :: r) else if K t.text = 1 then body 1 t.off r else semiP (body (K t.text) t.off r) := rfl
/-- The table f tells the readers of K and body. -/
def Tab (N : Nat) (f : List UInt8 → Option (Nat × Nat)) (K : List UInt8 → Nat) (body : Nat → Int → List Tok → PR Cl) : Prop :=
  ∀ s, (f s = none ∧ K s = 0) ∨ ∃ k g, f s = some (k, g) ∧ K s = k ∧ 0 < k ∧ k < 256 ∧ RdrC N g k (body k) ∧ ∀ args w, (callFunc g args).run Tryz.prog w = .ok (.enter g args) w
set_option maxRecDepth 100000 in
set_option maxHeartbeats 4000000 in
theorem one_c (N : Nat) (f : List UInt8 → Option (Nat × Nat)) (K : List UInt8 → Nat) (body : Nat → Int → List Tok → PR Cl) (hT : Tab N f K body) (w : World) (p M : Nat) (ts : List Tok) (en : Int) (h : PS w p ts en) (hm : MapR w M f) (hpM : ¬ M = p) (hN : N ≤ w.heap.size) (hNp : N ≤ p) (he : Wds N w) (hlen : ts.length ≤ 100000) :
    Calls Tryz.prog 38 #[.pointer (some ⟨p, 0, none⟩), .map (some M)] w (Rd (fun g => g = p) p en w (fun c v w' => IsC (fun b => w.heap.size ≤ b) w' v c) (oneP K body ts)) := by
  have hpw := h.lt
  have hMw := hm.lt
  obtain ⟨y, hy⟩ : ∃ y, oneP K body ts = y := ⟨_, rfl⟩
  rw [hy]
  have HY := Lib.hid hy
  clear hy
  have hmf := run_mkf
  obtain ⟨Wa, hWa⟩ : ∃ Wa, Wa = w.alloc (.cells #[.map (some M)] 72) := ⟨_, rfl⟩
  have hba : Below w.heap.size w Wa := hWa ▸ held_alloc (Below.refl _ w)
  have hsa : Wa.heap.size = w.heap.size + 1 := by rw [hWa]; simp
  have bm : Box Wa w.heap.size #[.map (some M)] 72 := hWa ▸ Box.new w _ _
  obtain ⟨W0, hW0⟩ : ∃ W0, W0 = Wa.alloc (.cells #[.int .u8 0, .slice none 0 0, .int .u8 0, .int .i64 0, .int .i64 0, .int .i64 0, .slice none 0 0, .int .i64 0] 43) := ⟨_, rfl⟩
  have hb0 : Below Wa.heap.size Wa W0 := hW0 ▸ held_alloc (Below.refl _ Wa)
  have bc : Box W0 Wa.heap.size #[.int .u8 0, .slice none 0 0, .int .u8 0, .int .i64 0, .int .i64 0, .int .i64 0, .slice none 0 0, .int .i64 0] 43 := hW0 ▸ Box.new Wa _ _
  have hs0 : W0.heap.size = w.heap.size + 2 := by rw [hW0, hWa]; simp
  rw [hsa] at bc
  have hB0 : Below w.heap.size w W0 := hba.trans (hb0.mono (by omega))
  have hp0 := h.after hB0
  have HP0 := Lib.hid hp0
  have HM0 := Lib.hid (hm.fx (S := fun _ => False) (Fx.of_below hB0) (fun e => e))
  have HE0 := Lib.hid (he.after hB0)
  have BM0 := Lib.hid (bm.after hb0)
  have BC0 := Lib.hid bc
  have HB0 := Lib.hid hB0
  clear hba bm hb0 bc hB0 hp0 h hm he
  go_enter Tryz.func38, Tryz.ntmps38
  go_upto_region 1 with fail
  rw [← hWa, ← hW0]
  clear hWa hW0
  go_wp2_with fail
  refine (at_c _ _ _ _ HP0.out).mono ?_
  rintro e w1 ⟨rfl, hb1⟩
  have HB1 := Lib.hid (HB0.out.trans (hb1.mono HB0.out.size))
  have HP1 := Lib.hid (HP0.out.after hb1)
  have HM1 := Lib.hid (HM0.out.fx (S := fun _ => False) (Fx.of_below hb1) (fun e => e))
  have HE1 := Lib.hid (HE0.out.after hb1)
  have BM1 := Lib.hid (BM0.out.after hb1)
  have BC1 := Lib.hid (BC0.out.after hb1)
  have hs1 : w.heap.size + 2 ≤ w1.heap.size := by have := hb1.size; omega
  clear hb1 HP0 HM0 HE0 BM0 BC0 HB0
  obtain ⟨w2, hw2⟩ : ∃ w2, w2 = w1.alloc (.cells (zc 0 (offE en ts)) 43) := ⟨_, rfl⟩
  have hb2 : Below w1.heap.size w1 w2 := hw2 ▸ held_alloc (Below.refl _ w1)
  have HC2 : Hid (Box w2 w1.heap.size (zc 0 (offE en ts)) 43) := hw2 ▸ Box.new w1 _ _
  have HB2 := Lib.hid (HB1.out.trans (hb2.mono HB1.out.size))
  have HP2 := Lib.hid (HP1.out.after hb2)
  have HM2 := Lib.hid (HM1.out.fx (S := fun _ => False) (Fx.of_below hb2) (fun e => e))
  have HE2 := Lib.hid (HE1.out.after hb2)
  have BM2 := Lib.hid (BM1.out.after hb2)
  have BC2 := Lib.hid (BC1.out.after hb2)
  clear hb2 HP1 HM1 HE1 BM1 BC1 HB1
  replace hw2 : w2 = w1.alloc (.cells #[.int .u8 0, .slice none 0 0, .int .u8 0, .int .i64 0, .int .i64 0, .int .i64 0, .slice none 0 0, .int .i64 (offE en ts)] 43) := hw2
  have hw2s : w2.heap.size = w1.heap.size + 1 := by rw [hw2]; simp
  have hbm2 := BM2.out.lt
  have HCL : Hid (ClsAt w2 (.func (.func 77) #[] #[.pointer (some ⟨w.heap.size, 0, none⟩)]) (known f)) := cls_one (BM2.out.cell 0) HM2.out
  go_wp2_with fail
  rw [← hw2]
  clear hw2
  refine (next_c _ p ts en _ (known f) HP2.out HCL.out).mono ?_
  rintro e w3 ⟨hf3, hr⟩
  clear HCL
  have HF3 := Lib.hid ((Fx.of_below HB2.out).trans hf3)
  have HM3 := Lib.hid (HM2.out.fx hf3 hpM)
  have HE3 := Lib.hid (HE2.out.fx hf3 (fun b e => e ▸ hNp))
  have BM3 := Lib.hid (BM2.out.fx hf3 (fun e => by omega))
  have BC3 := Lib.hid (BC2.out.fx hf3 (fun e => by omega))
  have HC3 := Lib.hid (HC2.out.fx hf3 (fun e => by omega))
  have hs3 : w1.heap.size + 1 ≤ w3.heap.size := by have := hf3.size; omega
  clear hf3 HB2 HP2 HM2 HE2 BM2 BC2 HC2 hw2s hbm2
  rcases hn : nextP (known f) ts with r | ⟨t, r⟩
  · rw [hn] at hr
    have HE : Hid (y = .error r) := by
      show _ = _
      rw [← HY.out]
      cases ts with
      | nil =>
        have h2 : (Except.error [] : PR Tok) = .error r := hn
        injection h2 with h2
        rw [← h2]
        rfl
      | cons t ts =>
        rw [nextP_at] at hn
        unfold known at hn
        rw [oneP_at]
        rcases hT t.text with ⟨h1, h2⟩ | ⟨k, g, h1, h2, h3, _⟩
        · rw [h1] at hn
          rw [if_pos h2]
          have h2 : (Except.error (t :: ts) : PR Tok) = .error r := hn
          injection h2 with h2
          rw [← h2]
        · rw [h1] at hn
          cases hn
    have hr : e = _ := hr
    subst hr
    clear hn HY
    go_wp2_with fail
    rw [HE.out]
    exact ⟨rfl, HF3.out, rfl⟩
  rw [hn] at hr
  obtain ⟨hp, v, rfl, rfl, ht⟩ := hr
  obtain ⟨hts, hkn⟩ := nextP_len hn
  have HT := Lib.hid ht
  have HP3 := Lib.hid hp
  have HYO : Hid (oneP K body (t :: r) = y) := by rw [hts] at HY; exact HY
  have hrl : r.length ≤ 100000 := by rw [hts] at hlen; simp at hlen; omega
  have hoff : offE en ts = t.off := by rw [hts]; rfl
  rw [hoff] at HC3
  clear hn ht hp hts hoff HY
  obtain ⟨tk, tx, tn, tf⟩ := t
  unfold tokV
  obtain ⟨k, g, hfk, hKk, hk0, hk256, hrdr, hen⟩ : ∃ k g, f tx = some (k, g) ∧ K tx = k ∧ 0 < k ∧ k < 256 ∧ RdrC N g k (body k) ∧ ∀ args w, (callFunc g args).run Tryz.prog w = .ok (.enter g args) w := by
    rcases hT tx with ⟨h1, h2⟩ | h
    · unfold known at hkn; simp only at hkn; rw [h1] at hkn; cases hkn
    · exact h
  have HR := Lib.hid hrdr
  have HY : Hid ((if k = 1 then body 1 tf r else semiP (body k tf r)) = y) := by
    show _ = _
    rw [← HYO.out]
    rw [oneP_at]
    show _ = if K tx = 0 then _ else if K tx = 1 then body 1 tf r else semiP (body (K tx) tf r)
    rw [hKk]
    simp only [show ¬ k = 0 from by omega, if_false]
  clear hrdr hKk hkn HYO
  -- the token's variable, and the kind's store
  obtain ⟨w4, hw4⟩ : ∃ w4, w4 = w3.setCell ⟨w1.heap.size, 0, none⟩ (.int .u8 (k : Int)) := ⟨_, rfl⟩
  have hf4 : Fx (fun b => b = w1.heap.size) w3 w4 := hw4 ▸ Fx.set w3 w1.heap.size 0 _
  have hs4 : w4.heap.size = w3.heap.size := by rw [hw4]; simp [World.setCell]
  obtain ⟨w5, hw5⟩ : ∃ w5, w5 = w4.alloc (.cells #[.int .u8 (tk : Int), .string (bs tx), .int .i64 tn, .int .i64 tf] 37) := ⟨_, rfl⟩
  have hb5 : Below w4.heap.size w4 w5 := hw5 ▸ held_alloc (Below.refl _ w4)
  have c0 : w3.cell? ⟨w1.heap.size, 0, none⟩ = some (.int .u8 0) := HC3.out.cell 0
  have fz := HC3.out.frozen 0
  have cm3 : w3.cell? ⟨w.heap.size, 0, none⟩ = some (.map (some M)) := BM3.out.cell 0
  have hl1 : w.heap.size < w3.heap.size := by omega
  have hk3 := (HM3.out.fx (S := fun _ => False) (Fx.of_below (held_alloc (o := .cells #[.int .u8 (tk : Int), .string (bs tx), .int .i64 tn, .int .i64 tf] 37) (Below.refl _ w3))) (fun e => e)).look tx HT.out.2.2.2
  have hl2 : w1.heap.size < w3.heap.size := by omega
  have hne : ¬ w.heap.size = w1.heap.size := by omega
  have HC5 : Hid (Box w5 w1.heap.size (zc k tf) 43) := by
    have h8 : Box w4 w1.heap.size (zc k tf) 43 := by rw [hw4]; simpa [zc] using HC3.out.set 0 (.int .u8 (k : Int))
    exact h8.after hb5
  have HP5 := Lib.hid ((HP3.out.fx hf4 (fun b e => by omega)).after hb5)
  have HM5 := Lib.hid ((HM3.out.fx hf4 (fun e => by omega)).fx (S := fun _ => False) (Fx.of_below hb5) (fun e => e))
  have hk5 := HM5.out.look tx HT.out.2.2.2
  rw [hfk] at hk3 hk5
  rw [hw5, hw4] at hk5
  unfold hitV rdrV at hk3 hk5
  have HE5 := Lib.hid ((HE3.out.fx hf4 (fun b e => by omega)).after hb5)
  go_wp2_with fail
  rw [← hw4, ← hw5]
  have HF5 := Lib.hid ((HF3.out.new hf4 (fun b e => .inr (by omega))).below hb5)
  have BC5 := Lib.hid ((BC3.out.fx hf4 (fun e => by omega)).after hb5)
  have hs5 : w5.heap.size = w3.heap.size + 1 := by rw [hw5]; simp [hs4]
  have hN5 : N ≤ w5.heap.size := by omega
  have hpc : p < w1.heap.size := by omega
  clear hw4 hw5 hf4 hb5 hs4 c0 fz cm3 hk3 hk5 HP3 HM3 HE3 BM3 BC3 HC3 HF3 HM5
  refine (HR.out w5 p w1.heap.size r en tf HP5.out HC5.out hpc hN5 hNp HE5.out hrl HT.out.2.2.1).mono ?_
  rintro e w6 ⟨hf6, hr⟩
  have HF6 := Lib.hid (HF5.out.new hf6 (fun b e => by rcases e with e | e; exact .inl e; exact .inr (by omega)))
  have BC6 := Lib.hid (BC5.out.fx hf6 (fun e => by rcases e with e | e <;> omega))
  have hs6 : w5.heap.size ≤ w6.heap.size := hf6.size
  clear hf6 HF5 BC5 HP5 HC5 HE5 HR
  rcases hn : body k tf r with r' | ⟨cl, r'⟩
  · rw [hn] at hr
    have HE : Hid (y = .error r') := by
      show _ = _
      rw [← HY.out]
      by_cases e1 : k = 1
      · rw [if_pos e1, ← e1, hn]
      · rw [if_neg e1, hn]; rfl
    have hr : e = _ := hr
    subst hr
    clear hn HY
    go_wp2_with fail
    rw [HE.out]
    exact ⟨rfl, HF6.out, rfl⟩
  rw [hn] at hr
  obtain ⟨hp, v, rfl, rfl, rfl, vn, vi, hbx, hcl⟩ := hr
  have HP6 := Lib.hid hp
  have HB6 := Lib.hid hbx
  have HCL := Lib.hid hcl
  have d0 : w6.cell? ⟨w1.heap.size, 0, none⟩ = some (.int .u8 (cl.kind : Int)) := hbx.cell 0
  clear hp hbx hcl
  by_cases hk1 : cl.kind = 1
  · have HE : Hid (y = .ok (cl, r')) := by show _ = _; rw [← HY.out, if_pos hk1, ← hk1, hn]
    have q0 : ((cl.kind : Int) != 1) = false := by simp; omega
    clear hn HY hk1
    obtain ⟨nn, nd, ni, na, nb, no⟩ := (hasC_iff.1 HCL.out).1
    obtain ⟨qn, cn, hvn, _, _, _⟩ := (hasC_iff.1 HCL.out).2.1.2.shape
    obtain ⟨qi, ci, hvi, _, _, _⟩ := (hasC_iff.1 HCL.out).2.2.shape
    have d1 : w6.cell? ⟨w1.heap.size, 1, none⟩ = some vn := HB6.out.cell 1
    have d2 : w6.cell? ⟨w1.heap.size, 2, none⟩ = some (.int .u8 (cl.dom : Int)) := HB6.out.cell 2
    have d3 : w6.cell? ⟨w1.heap.size, 3, none⟩ = some (.int .i64 cl.idx) := HB6.out.cell 3
    have d4 : w6.cell? ⟨w1.heap.size, 4, none⟩ = some (.int .i64 cl.a) := HB6.out.cell 4
    have d5 : w6.cell? ⟨w1.heap.size, 5, none⟩ = some (.int .i64 cl.b) := HB6.out.cell 5
    have d6 : w6.cell? ⟨w1.heap.size, 6, none⟩ = some vi := HB6.out.cell 6
    have d7 : w6.cell? ⟨w1.heap.size, 7, none⟩ = some (.int .i64 cl.off) := HB6.out.cell 7
    obtain ⟨x0, x1, x2, x3, x4, x5, x6, x7⟩ := BC6.out.cells8
    have z0 := BC6.out.frozen 0
    have z1 := BC6.out.frozen 1
    have z2 := BC6.out.frozen 2
    have z3 := BC6.out.frozen 3
    have z4 := BC6.out.frozen 4
    have z5 := BC6.out.frozen 5
    have z6 := BC6.out.frozen 6
    have z7 := BC6.out.frozen 7
    have HEN := Lib.hid (end8 BC6.out (.int .u8 (cl.kind : Int)) vn (.int .u8 (cl.dom : Int)) (.int .i64 cl.idx) (.int .i64 cl.a) (.int .i64 cl.b) vi (.int .i64 cl.off))
    have hle : w.heap.size + 1 < w6.heap.size := BC6.out.lt
    subst hvn hvi
    clear nn nd ni na nb no
    go_wp2_with fail
    obtain ⟨e0, e1, e2, e3, e4, e5, e6, e7⟩ := HEN.out.cells8
    refine bodyPost_ret (v := .agg (clV cl (.slice qn cl.names.length cn) (.slice qi cl.items.length ci)).toArray) (by simp [results, Tryz.results38, go_sem, clV, e0, e1, e2, e3, e4, e5, e6, e7]) rfl ?_
    have hf9 := fx_set8 w6 (w.heap.size + 1) 0 (.int .u8 (cl.kind : Int)) (.slice qn cl.names.length cn) (.int .u8 (cl.dom : Int)) (.int .i64 cl.idx) (.int .i64 cl.a) (.int .i64 cl.b) (.slice qi cl.items.length ci) (.int .i64 cl.off)
    rw [HE.out]
    refine ⟨HF6.out.new hf9 (fun b e => .inr (by omega)), HP6.out.fx hf9 (fun b e => by omega), _, rfl, _, _, rfl, HasC.mono (fun b hb _ => by omega) cl (HasC.fx hf9 (fun b hb _ e => by omega) cl HCL.out)⟩
  · have HX : Hid ((andP (wantP sSemi r') fun _ r => .ok (cl, r)) = y) := by
      show _ = _
      rw [← HY.out, if_neg hk1, hn]
      rfl
    have q0 : ((cl.kind : Int) != 1) = true := by simp; omega
    clear hn HY hk1
    go_wp2_with fail
    refine (want_c _ p r' en sSemi HP6.out).mono ?_
    rintro e w8 ⟨hf8, hr⟩
    have HF8 := Lib.hid (HF6.out.trans hf8)
    have BC8 := Lib.hid (BC6.out.fx hf8 (fun e => by omega))
    have HB8 := Lib.hid (HB6.out.fx hf8 (fun e => by omega))
    have HC8 := Lib.hid (HasC.fx hf8 (fun b hb _ e => by omega) cl HCL.out)
    clear hf8 HF6 BC6 HB6 HCL HP6 d0
    rcases hn : wantP sSemi r' with r2 | ⟨z, r2⟩
    · rw [hn] at hr
      have HE : Hid (y = .error r2) := by have := HX.out; rw [hn] at this; exact this.symm
      have hr : e = _ := hr
      subst hr
      clear hn HX
      go_wp2_with fail
      rw [HE.out]
      exact ⟨rfl, HF8.out, rfl⟩
    rw [hn] at hr
    obtain ⟨hp, v, rfl, rfl⟩ := hr
    have HP8 := Lib.hid hp
    have HE : Hid (y = .ok (cl, r2)) := by have := HX.out; rw [hn] at this; exact this.symm
    clear hp hn HX
    obtain ⟨nn, nd, ni, na, nb, no⟩ := (hasC_iff.1 HC8.out).1
    obtain ⟨qn, cn, hvn, _, _, _⟩ := (hasC_iff.1 HC8.out).2.1.2.shape
    obtain ⟨qi, ci, hvi, _, _, _⟩ := (hasC_iff.1 HC8.out).2.2.shape
    have d0 : w8.cell? ⟨w1.heap.size, 0, none⟩ = some (.int .u8 (cl.kind : Int)) := HB8.out.cell 0
    have d1 : w8.cell? ⟨w1.heap.size, 1, none⟩ = some vn := HB8.out.cell 1
    have d2 : w8.cell? ⟨w1.heap.size, 2, none⟩ = some (.int .u8 (cl.dom : Int)) := HB8.out.cell 2
    have d3 : w8.cell? ⟨w1.heap.size, 3, none⟩ = some (.int .i64 cl.idx) := HB8.out.cell 3
    have d4 : w8.cell? ⟨w1.heap.size, 4, none⟩ = some (.int .i64 cl.a) := HB8.out.cell 4
    have d5 : w8.cell? ⟨w1.heap.size, 5, none⟩ = some (.int .i64 cl.b) := HB8.out.cell 5
    have d6 : w8.cell? ⟨w1.heap.size, 6, none⟩ = some vi := HB8.out.cell 6
    have d7 : w8.cell? ⟨w1.heap.size, 7, none⟩ = some (.int .i64 cl.off) := HB8.out.cell 7
    obtain ⟨x0, x1, x2, x3, x4, x5, x6, x7⟩ := BC8.out.cells8
    have z0 := BC8.out.frozen 0
    have z1 := BC8.out.frozen 1
    have z2 := BC8.out.frozen 2
    have z3 := BC8.out.frozen 3
    have z4 := BC8.out.frozen 4
    have z5 := BC8.out.frozen 5
    have z6 := BC8.out.frozen 6
    have z7 := BC8.out.frozen 7
    have HEN := Lib.hid (end8 BC8.out (.int .u8 (cl.kind : Int)) vn (.int .u8 (cl.dom : Int)) (.int .i64 cl.idx) (.int .i64 cl.a) (.int .i64 cl.b) vi (.int .i64 cl.off))
    have hle : w.heap.size + 1 < w8.heap.size := BC8.out.lt
    subst hvn hvi
    clear nn nd ni na nb no
    go_wp2_with fail
    obtain ⟨e0, e1, e2, e3, e4, e5, e6, e7⟩ := HEN.out.cells8
    refine bodyPost_ret (v := .agg (clV cl (.slice qn cl.names.length cn) (.slice qi cl.items.length ci)).toArray) (by simp [results, Tryz.results38, go_sem, clV, e0, e1, e2, e3, e4, e5, e6, e7]) rfl ?_
    have hf9 := fx_set8 w8 (w.heap.size + 1) 0 (.int .u8 (cl.kind : Int)) (.slice qn cl.names.length cn) (.int .u8 (cl.dom : Int)) (.int .i64 cl.idx) (.int .i64 cl.a) (.int .i64 cl.b) (.slice qi cl.items.length ci) (.int .i64 cl.off)
    rw [HE.out]
    refine ⟨HF8.out.new hf9 (fun b e => .inr (by omega)), HP8.out.fx hf9 (fun b e => by omega), _, rfl, _, _, rfl, HasC.mono (fun b hb _ => by omega) cl (HasC.fx hf9 (fun b hb _ e => by omega) cl HC8.out)⟩
end Go.Proofs.YtganlldidjbpiaaGreatDoor

namespace Go.Proofs.YtganlldidjbpiaaGreatDoor
open Go.RowKit Go.Shelf

/-- Blocks from base on, but the block of the row v. -/
def DR (base : Nat) (v : Value) (b : Nat) : Prop := base ≤ b ∧ ¬ some b = v.ownBlock
theorem OwnC.pos {w : World} {base : Nat} {e : TypeId} {k : Nat} {v : Value} {rows : List (List Value)} (h : OwnC w base e k v rows) (h0 : 0 < rows.length) :
    ∃ g cap, v = .slice (some ⟨g, 0, none⟩) rows.length cap ∧ v.ownBlock = some g ∧ base ≤ g ∧ g < w.heap.size ∧ rows.length ≤ cap ∧ cap ≤ 9223372036854775807 ∧ (∀ i, w.frozen? ⟨g, i, none⟩ = false) ∧ ∀ i, i < rows.length → ∀ j, j < k → w.cell? ⟨g, i * k + j, none⟩ = some ((rows.getD i []).getD j undef) := by
  have hs := h.slh
  rcases h.2.2 with ⟨_, e'⟩ | ⟨g, cap, cur, e', hge, hg, h3, h4, _, _⟩
  · omega
  · subst e'
    have hb : Box w g cur e := hg
    obtain ⟨b, off, cap', e1, _, _, _, _, hc⟩ := hs.at_ h0
    injection e1 with e1 _ e3
    injection e1 with e1
    injection e1 with e1 e2
    subst e1 e2
    refine ⟨g, cap, rfl, rfl, hge, hb.lt, h3, by simpa [maxLen] using h4, hb.frozen, fun i hi j hj => ?_⟩
    have := hc i hi j hj
    rw [Nat.zero_add] at this
    exact this
/-- A row of clauses behind an append and the stores of the new clause. -/
theorem OwnCl.grow {w : World} {D : Nat → Prop} {base g cap : Nat} {us : List (Value × Value)} {l : List Cl} {cl : Cl} {vn vi z0 z1 z2 z3 z4 z5 z6 z7 : Value} (hn : OwnC w base 43 8 (.slice (some ⟨g, 0, none⟩) (l.length + 1) cap) (rowsOf us l ++ [[z0, z1, z2, z3, z4, z5, z6, z7]]))
    (hl : HasL D w us l) (hc : HasC D w vn vi cl) (hd : ∀ b, D b → base ≤ b ∧ ¬ b = g) :
    OwnCl (DR base (.slice (some ⟨g, 0, none⟩) (l.length + 1) cap)) ((((((((w.setCell ⟨g, l.length * 8, none⟩ (.int .u8 (cl.kind : Int))).setCell ⟨g, l.length * 8 + 1, none⟩ vn).setCell ⟨g, l.length * 8 + 2, none⟩ (.int .u8 (cl.dom : Int))).setCell ⟨g, l.length * 8 + 3, none⟩ (.int .i64 cl.idx)).setCell ⟨g, l.length * 8 + 4, none⟩ (.int .i64 cl.a)).setCell ⟨g, l.length * 8 + 5, none⟩ (.int .i64 cl.b)).setCell ⟨g, l.length * 8 + 6, none⟩ vi).setCell ⟨g, l.length * 8 + 7, none⟩ (.int .i64 cl.off)) base (.slice (some ⟨g, 0, none⟩) (l.length + 1) cap) (l ++ [cl]) := by
  have hu := hl.len
  have hput := hn.put8 (g := g) (a0 := .int .u8 (cl.kind : Int)) (a1 := vn) (a2 := .int .u8 (cl.dom : Int)) (a3 := .int .i64 cl.idx) (a4 := .int .i64 cl.a) (a5 := .int .i64 cl.b) (a6 := vi) (a7 := .int .i64 cl.off) rfl
  rw [rowsOf_len hu] at hput
  have hf2 := fx_set8 w g (l.length * 8) (.int .u8 (cl.kind : Int)) vn (.int .u8 (cl.dom : Int)) (.int .i64 cl.idx) (.int .i64 cl.a) (.int .i64 cl.b) vi (.int .i64 cl.off)
  refine ⟨us ++ [(vn, vi)], ?_, ?_⟩
  · rw [rowsOf_snoc hu]
    exact hput
  · exact HasL.mono (D := D) (fun b hb _ => ⟨(hd b hb).1, fun e => (hd b hb).2 (by simpa [Value.ownBlock] using e)⟩) _ (HasL.snoc (HasL.fx hf2 (fun b hb _ => (hd b hb).2) l hl) (HasC.fx hf2 (fun b hb _ => (hd b hb).2) cl hc))
/-- What an operation yields, in a region where operation i1 appends to a row: some of it stands over the append. -/
structure KP2 (S T : Nat → Prop) where
  b : Bool
  F : Value → World → Prop
  st : ∀ v w w', Fx S w w' → F v w → F v w'
  pu : b = true → ∀ v w w', Fx T w w' → F v w → F v w'
section
variable {S T : Nat → Prop}
def KP2.eq (u : Value) : KP2 S T := ⟨true, fun v _ => v = u, fun _ _ _ _ h => h, fun _ _ _ _ _ h => h⟩
def KP2.pv (P : Value → Prop) : KP2 S T := ⟨true, fun v _ => P v, fun _ _ _ _ h => h, fun _ _ _ _ _ h => h⟩
def KP2.any : KP2 S T := ⟨true, fun _ _ => True, fun _ _ _ _ h => h, fun _ _ _ _ _ h => h⟩
def KP2.ev (F : Value → World → Prop) (st : ∀ v w w', Fx S w w' → F v w → F v w') : KP2 S T := ⟨false, F, st, fun h => by cases h⟩
def SKP2 (i1 : Nat) (K : Nat → KP2 S T) (l : Array Bool) (k : Nat) (v : Value) (w : World) : Prop := ((K k).b = true ∨ ¬ up l i1 ∨ k = i1) → (K k).F v w
variable {i1 i k : Nat} {K : Nat → KP2 S T} {l : Array Bool} {v : Value} {w w' : World}
theorem SKP2.keep (h : SKP2 i1 K l k v w) (hf : Fx S w w') : SKP2 i1 K (l.setIfInBounds i true) k v w' :=
  fun hh => (K k).st _ _ _ hf (h (hh.imp id (fun h => h.imp (fun h u => h (up_keep u)) id)))
theorem SKP2.app (h : SKP2 i1 K l k v w) (hk : k ≠ i1) (hl : i1 < l.size) (hf : Fx T w w') : SKP2 i1 K (l.setIfInBounds i1 true) k v w' := by
  intro hh
  rcases hh with hh | hh | hh
  · exact (K k).pu hh _ _ _ hf (h (.inl hh))
  · exact absurd (up_self hl) hh
  · exact absurd hh hk
end
/-- A region that reads by operation i0 and appends by operation i1 to the row v0; a box stands. -/
def CB {α : Type} (W0 : World) (p : Nat) (en : Int) (i0 i1 base : Nat) (e : TypeId) (kk : Nat) (v0 : Value) (rows : List (List Value)) (c : Nat) (cs : Array Value) (ty : TypeId) (ts : List Tok) (x : PR α) (l : Array Bool) (_ : Nat → Value) (w : World) : Prop :=
  Fx (fun b => b = p ∨ some b = v0.ownBlock) W0 w ∧ (¬ up l i0 → PS w p ts en) ∧ (up l i0 → ∃ a r, x = .ok (a, r) ∧ PS w p r en) ∧ (¬ up l i1 → OwnC w base e kk v0 rows) ∧ Box w c cs ty
section
variable {α : Type} {W0 : World} {p c i0 i1 kk : Nat} {en : Int} {base : Nat} {e ty : TypeId} {v0 : Value} {rows : List (List Value)} {cs : Array Value} {ts : List Tok} {x : PR α} {l : Array Bool} {f g : Nat → Value} {w w' : World}
theorem CB.start {n : Nat} (h1 : PS W0 p ts en) (h2 : OwnC W0 base e kk v0 rows) (h3 : Box W0 c cs ty) : CB W0 p en i0 i1 base e kk v0 rows c cs ty ts x (Array.replicate n false) f W0.drew := by
  have hf : Fx (fun _ => False) W0 W0.drew := (Fx.refl _ _).drew
  exact ⟨(Fx.refl _ W0).drew, fun _ => h1.fx hf (fun _ e => e.elim), fun u => absurd u (up_none _ _), fun _ => h2.fx hf (fun _ e => e.elim), h3.fx hf (fun e => e)⟩
theorem CB.keep {i : Nat} (h : CB W0 p en i0 i1 base e kk v0 rows c cs ty ts x l f w) (h6 : i0 ≠ i) (h8 : i1 ≠ i) (hb : Below w.heap.size w w') : CB W0 p en i0 i1 base e kk v0 rows c cs ty ts x (l.setIfInBounds i true) g w' := by
  obtain ⟨a1, a2, a3, a4, a5⟩ := h
  have hf : Fx (fun _ => False) w w' := Fx.of_below hb
  refine ⟨a1.below hb, fun u => (a2 (fun u' => u (up_keep u'))).after hb, fun u => ?_, fun u => (a4 (fun u' => u (up_keep u'))).fx hf (fun _ e => e.elim), a5.after hb⟩
  obtain ⟨n, r, e, hp⟩ := a3 (up_set u h6)
  exact ⟨n, r, e, hp.after hb⟩
theorem CB.read {a : α} {r : List Tok} (h : CB W0 p en i0 i1 base e kk v0 rows c cs ty ts x l f w) (hl : i0 < l.size) (h01 : i1 ≠ i0) (hf : Fx (fun b => b = p) w w') (e' : x = .ok (a, r)) (hp : PS w' p r en) (hpc : ¬ c = p) (hbp : p < base) : CB W0 p en i0 i1 base e kk v0 rows c cs ty ts x (l.setIfInBounds i0 true) g w' := by
  obtain ⟨a1, a2, a3, a4, a5⟩ := h
  exact ⟨a1.trans (hf.mono (fun b e => .inl e)), fun u => absurd (up_self hl) u, fun _ => ⟨a, r, e', hp⟩, fun u => (a4 (fun u' => u (up_keep u'))).fx hf (fun b e hb => by have := hb.1; omega), a5.fx hf (fun e => hpc e)⟩
theorem CB.app (h : CB W0 p en i0 i1 base e kk v0 rows c cs ty ts x l f w) (hl : i1 < l.size) (h01 : i0 ≠ i1) (hf : Fx (fun b => some b = v0.ownBlock) w w') (ho : ∀ b, some b = v0.ownBlock → p < b ∧ ¬ c = b) : CB W0 p en i0 i1 base e kk v0 rows c cs ty ts x (l.setIfInBounds i1 true) g w' := by
  obtain ⟨a1, a2, a3, a4, a5⟩ := h
  refine ⟨a1.trans (hf.mono (fun b e => .inr e)), fun u => (a2 (fun u' => u (up_keep u'))).fx hf (fun b e => (ho b e).1), fun u => ?_, fun u => absurd (up_self hl) u, a5.fx hf (fun e => (ho c e).2 rfl)⟩
  obtain ⟨n, r, e, hp⟩ := a3 (up_set u h01)
  exact ⟨n, r, e, hp.fx hf (fun b e => (ho b e).1)⟩
end
/-- Behind the append: the row's block is another one than those where the clauses' parts lie. -/
def P9 (base : Nat) (us : List (Value × Value)) (nl : List Cl) (z : List Value) (P : Cl → Prop) (v6 v9 : Value) (w : World) : Prop :=
  ∃ cl vn vi g cap, P cl ∧ v6 = .agg (clV cl vn vi).toArray ∧ v9 = .slice (some ⟨g, 0, none⟩) (nl.length + 1) cap ∧ nl.length + 1 ≤ cap ∧ cap ≤ 9223372036854775807 ∧ base ≤ g ∧ g < w.heap.size ∧ OwnC w base 43 8 v9 (rowsOf us nl ++ [z]) ∧ HasC (fun b => base ≤ b ∧ ¬ b = g) w vn vi cl ∧ HasL (fun b => base ≤ b ∧ ¬ b = g) w us nl
theorem P9.mk {W0 w w' : World} {base p : Nat} {v0 v6 v' : Value} {us : List (Value × Value)} {nl : List Cl} {z : List Value} {P : Cl → Prop} {cl : Cl} (hp : P cl) (h6 : IsC (fun b => W0.heap.size ≤ b) w v6 cl) (hL : HasL (DR base v0) W0 us nl) (hf0 : Fx (fun b => b = p ∨ some b = v0.ownBlock) W0 w)
    (hown : OwnC w' base 43 8 v' (rowsOf us nl ++ [z])) (hf : Fx (fun b => some b = v0.ownBlock) w w') (hor : v'.ownBlock = v0.ownBlock ∨ v'.ownBlock = some w.heap.size) (hob : ∀ b, some b = v0.ownBlock → base ≤ b ∧ b < W0.heap.size) (hb : base ≤ W0.heap.size) (hpb : p < base) : P9 base us nl z P v6 v' w' := by
  obtain ⟨vn, vi, e6, hc⟩ := h6
  have hlen : (rowsOf us nl ++ [z]).length = nl.length + 1 := by rw [List.length_append, rowsOf_len hL.len]; rfl
  obtain ⟨g, cap, e9, hgo, hgb, hgw, hgc, hgm, _, _⟩ := hown.pos (by rw [hlen]; omega)
  rw [hlen] at e9 hgc
  have hg : some g = v0.ownBlock ∨ g = w.heap.size := by
    rcases hor with h | h
    · exact .inl (hgo.symm.trans h)
    · right; rw [hgo] at h; injection h
  have h0 := hf0.size
  refine ⟨cl, vn, vi, g, cap, hp, e6, e9, hgc, hgm, hgb, hgw, hown, ?_, ?_⟩
  · have h1 := HasC.mono (D' := fun b => W0.heap.size ≤ b ∧ b < w.heap.size) (fun b hb' hlt => ⟨hb', hlt⟩) cl hc
    have h2 := HasC.fx hf (fun b hb' _ e => by have := hob b e; have := hb'.1; omega) cl h1
    refine HasC.mono (fun b hb' _ => ⟨by have := hb'.1; omega, fun e => ?_⟩) cl h2
    rcases hg with hg | hg
    · have := hob g hg; have := hb'.1; omega
    · have := hb'.2; omega
  · have h1 := HasL.mono (D' := fun b => DR base v0 b ∧ b < W0.heap.size) (fun b hb' hlt => ⟨hb', hlt⟩) nl hL
    have h2 := HasL.fx hf0 (fun b hb' _ e => by
      have := hb'.1.1
      rcases e with e | e
      · omega
      · exact hb'.1.2 e) nl h1
    have h3 := HasL.fx hf (fun b hb' _ e => hb'.1.2 e) nl h2
    refine HasL.mono (fun b hb' _ => ⟨hb'.1.1, fun e => ?_⟩) nl h3
    rcases hg with hg | hg
    · exact hb'.1.2 (e ▸ hg)
    · have := hb'.2; omega
/-- Behind the append: operation i8 stores the new clause, operation i9 stores the row into the box. -/
def CD (W1 : World) (i8 i9 base g cap : Nat) (us : List (Value × Value)) (nl : List Cl) (z : List Value) (cl : Cl) (c : Nat) (cs cs' : Array Value) (ty : TypeId) (l : Array Bool) (_ : Nat → Value) (w : World) : Prop :=
  Fx (fun b => b = g ∨ b = c) W1 w ∧ (¬ up l i8 → OwnC w base 43 8 (.slice (some ⟨g, 0, none⟩) (nl.length + 1) cap) (rowsOf us nl ++ [z])) ∧ (up l i8 → OwnCl (DR base (.slice (some ⟨g, 0, none⟩) (nl.length + 1) cap)) w base (.slice (some ⟨g, 0, none⟩) (nl.length + 1) cap) (nl ++ [cl])) ∧
    (¬ up l i9 → Box w c cs ty) ∧ (up l i9 → Box w c cs' ty)
section
variable {W1 : World} {i8 i9 base g cap c i : Nat} {us : List (Value × Value)} {nl : List Cl} {z : List Value} {cl : Cl} {cs cs' : Array Value} {ty : TypeId} {l : Array Bool} {f h : Nat → Value} {w w' : World}
theorem CD.start (h8 : ¬ up l i8) (h9 : ¬ up l i9) (h1 : OwnC W1 base 43 8 (.slice (some ⟨g, 0, none⟩) (nl.length + 1) cap) (rowsOf us nl ++ [z])) (h2 : Box W1 c cs ty) : CD W1 i8 i9 base g cap us nl z cl c cs cs' ty l f W1 :=
  ⟨Fx.refl _ _, fun _ => h1, fun u => absurd u h8, fun _ => h2, fun u => absurd u h9⟩
theorem CD.keep (hc : CD W1 i8 i9 base g cap us nl z cl c cs cs' ty l f w) (h8 : i8 ≠ i) (h9 : i9 ≠ i) : CD W1 i8 i9 base g cap us nl z cl c cs cs' ty (l.setIfInBounds i true) h w := by
  obtain ⟨a1, a2, a3, a4, a5⟩ := hc
  exact ⟨a1, fun u => a2 (fun u' => u (up_keep u')), fun u => a3 (up_set u h8), fun u => a4 (fun u' => u (up_keep u')), fun u => a5 (up_set u h9)⟩
theorem CD.elem {vn vi z0 z1 z2 z3 z4 z5 z6 z7 : Value} {D : Nat → Prop} (hc : CD W1 i8 i9 base g cap us nl [z0, z1, z2, z3, z4, z5, z6, z7] cl c cs cs' ty l f w) (hn : ¬ up l i8) (hl : i8 < l.size) (h89 : i9 ≠ i8) (hL : HasL D W1 us nl) (hC : HasC D W1 vn vi cl) (hd : ∀ b, D b → base ≤ b ∧ ¬ b = g) (hcb : c < base) (hgb : base ≤ g) :
    CD W1 i8 i9 base g cap us nl [z0, z1, z2, z3, z4, z5, z6, z7] cl c cs cs' ty (l.setIfInBounds i8 true) h ((((((((w.setCell ⟨g, nl.length * 8, none⟩ (.int .u8 (cl.kind : Int))).setCell ⟨g, nl.length * 8 + 1, none⟩ vn).setCell ⟨g, nl.length * 8 + 2, none⟩ (.int .u8 (cl.dom : Int))).setCell ⟨g, nl.length * 8 + 3, none⟩ (.int .i64 cl.idx)).setCell ⟨g, nl.length * 8 + 4, none⟩ (.int .i64 cl.a)).setCell ⟨g, nl.length * 8 + 5, none⟩ (.int .i64 cl.b)).setCell ⟨g, nl.length * 8 + 6, none⟩ vi).setCell ⟨g, nl.length * 8 + 7, none⟩ (.int .i64 cl.off)) := by
  obtain ⟨a1, a2, a3, a4, a5⟩ := hc
  have hf2 := fx_set8 w g (nl.length * 8) (.int .u8 (cl.kind : Int)) vn (.int .u8 (cl.dom : Int)) (.int .i64 cl.idx) (.int .i64 cl.a) (.int .i64 cl.b) vi (.int .i64 cl.off)
  have hdd : ∀ b, D b → b < W1.heap.size → ¬ (b = g ∨ b = c) := fun b hb _ e => by
    have := hd b hb
    rcases e with e | e <;> omega
  refine ⟨a1.trans (hf2.mono (fun b e => .inl e)), fun u => absurd (up_self hl) u, fun _ => OwnCl.grow (a2 hn) (HasL.fx a1 hdd nl hL) (HasC.fx a1 hdd cl hC) hd, fun u => (a4 (fun u' => u (up_keep u'))).fx hf2 (fun e => by omega), fun u => (a5 (up_set u h89)).fx hf2 (fun e => by omega)⟩
theorem CD.var {j : Nat} {u : Value} (hc : CD W1 i8 i9 base g cap us nl z cl c cs cs' ty l f w) (hn : ¬ up l i9) (hl : i9 < l.size) (h89 : i8 ≠ i9) (hcs : cs.setIfInBounds j u = cs') (hcb : c < base) : CD W1 i8 i9 base g cap us nl z cl c cs cs' ty (l.setIfInBounds i9 true) h (w.setCell ⟨c, j, none⟩ u) := by
  obtain ⟨a1, a2, a3, a4, a5⟩ := hc
  have hf2 := Fx.set w c j u
  refine ⟨a1.trans (hf2.mono (fun b e => .inr e)), fun u' => (a2 (fun u'' => u' (up_keep u''))).fx hf2 (fun b e hb => by have := hb.1; omega), fun u' => (a3 (up_set u' h89)).fx hf2 (fun b e hb => by have := hb.1; omega) (fun b hb _ e => by have := hb.1; omega), fun u' => absurd (up_self hl) u', fun _ => ?_⟩
  rw [← hcs]
  exact (a4 hn).set j u
end
def itemsA (ts : List Tok) : PR (List Cl) := itemsP (ts.length + 1) ts
theorem itemsA_have (ts : List Tok) : itemsA ts = if (haveF sClose ts).1 then .ok ([], (haveF sClose ts).2) else andP (itemP ts) fun c r => andP (itemsA r) fun l r => .ok (c :: l, r) := by
  unfold itemsA
  cases ts with
  | nil => rfl
  | cons t r =>
    rw [itemsP_at]
    cases ht : (t.text == sClose) with
    | true => rw [haveF_yes ht]; rfl
    | false =>
      rw [haveF_no ht]
      simp only [Bool.false_eq_true, if_false]
      rcases hi : itemP (t :: r) with e | ⟨c, r'⟩
      · rfl
      · simp only [andP]
        have := itemP_len hi
        rw [itemsP_fuel (t :: r).length r' (by omega)]
theorem itemP_one (ts : List Tok) : itemP ts = oneP itemK bodyI ts := by
  cases ts with
  | nil => rfl
  | cons t r =>
    rw [itemP_at, oneP_at]
    by_cases h : itemK t.text = 0
    · rw [if_pos h, if_pos h]
    · have h1 := itemK_range h
      rw [if_neg h, if_neg h, if_neg (by omega)]
theorem topP_one (ts : List Tok) : topP ts = oneP topK bodyT ts := by
  cases ts with
  | nil => rfl
  | cons t r => rfl
set_option maxRecDepth 100000 in
theorem tab_item (N : Nat) : Tab N (look itemL) itemK bodyI := by
  intro s
  by_cases h1 : s = sCores
  · subst h1; exact .inr ⟨6, _, rfl, rfl, by omega, by omega, rdr_amount N 6 (by omega), enters_of Tryz.func82 (by kernel_rfl) rfl⟩
  by_cases h2 : s = sReplicas
  · subst h2; exact .inr ⟨7, _, rfl, rfl, by omega, by omega, rdr_amount N 7 (by omega), enters_of Tryz.func82 (by kernel_rfl) rfl⟩
  by_cases h3 : s = sLeast
  · subst h3; exact .inr ⟨8, _, rfl, rfl, by omega, by omega, rdr_amount N 8 (by omega), enters_of Tryz.func82 (by kernel_rfl) rfl⟩
  by_cases h4 : s = sFirmware
  · subst h4; exact .inr ⟨12, _, rfl, rfl, by omega, by omega, rdr_amount N 12 (by omega), enters_of Tryz.func82 (by kernel_rfl) rfl⟩
  by_cases h5 : s = sSpread
  · subst h5; exact .inr ⟨9, _, rfl, rfl, by omega, by omega, rdr_spread N, enters_of Tryz.func123 (by kernel_rfl) rfl⟩
  by_cases h6 : s = sApart
  · subst h6; exact .inr ⟨10, _, rfl, rfl, by omega, by omega, rdr_apart N, enters_of Tryz.func124 (by kernel_rfl) rfl⟩
  by_cases h7 : s = sNear
  · subst h7; exact .inr ⟨11, _, rfl, rfl, by omega, by omega, rdr_near N, enters_of Tryz.func125 (by kernel_rfl) rfl⟩
  · left
    unfold itemL itemK
    simp only [look, if_neg h1, if_neg h2, if_neg h3, if_neg h4, if_neg h5, if_neg h6, if_neg h7]
    constructor <;> first | trivial | rfl
end Go.Proofs.YtganlldidjbpiaaGreatDoor
