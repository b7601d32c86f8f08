/- Walks of package syntax: the parser's steps.
   Walks of package syntax: names, numbers, signs and words.
   Syntax: drawn regions by an invariant; a region whose last operations come in their order. -/
import Derived.Test.YtganlldidjbpiaaGreatDoorK06
import Derived.Test.YtganlldidjbpiaaGreatDoorK01
set_option linter.unusedVariables false
namespace Go.Proofs.YtganlldidjbpiaaGreatDoor
open Go.RowKit Go.Shelf

theorem PS.nil {w : World} {p : Nat} {en : Int} (h : PS w p [] en) : ∃ a c, Box w p #[.slice a 0 c, .int .i64 en] 47 ∧ c ≤ 9223372036854775807 := by
  obtain ⟨v, h1, h2⟩ := h
  obtain ⟨a, c, rfl, _, h3, _⟩ := h2.2.shape
  exact ⟨a, c, h1, h3⟩
theorem PS.cons {w : World} {p : Nat} {t : Tok} {ts : List Tok} {en : Int} (h : PS w p (t :: ts) en) : ∃ b off c, Box w p #[.slice (some ⟨b, off, none⟩) (ts.length + 1) c, .int .i64 en] 47 ∧ ts.length + 1 ≤ c ∧ c ≤ 9223372036854775807 ∧ b < p ∧ TokOk t ∧
    w.cell? ⟨b, off, none⟩ = some (.int .u8 (t.kind : Int)) ∧ w.cell? ⟨b, off + 1, none⟩ = some (.string (bs t.text)) ∧ w.cell? ⟨b, off + 2, none⟩ = some (.int .i64 t.num) ∧ w.cell? ⟨b, off + 3, none⟩ = some (.int .i64 t.off) ∧
    ∀ q, (0 < ts.length → q = some ⟨b, off + 4, none⟩) → (q = none → c - 1 = 0) → SlT (fun b => b < p) w (.slice q ts.length (c - 1)) ts := by
  obtain ⟨v, h1, h2⟩ := h
  obtain ⟨b, off, c, rfl, a1, a2, a3, a4, a5, a6, a7, a8, a9, a10⟩ := h2.head
  exact ⟨b, off, c, h1, a1, a2, a3, a5, a6, a7, a8, a9, a10⟩
set_option maxRecDepth 100000 in
set_option maxHeartbeats 2000000 in
theorem at_c (w : World) (p : Nat) (ts : List Tok) (en : Int) (h : PS w p ts en) : Calls Tryz.prog 75 #[.pointer (some ⟨p, 0, none⟩)] w fun e w' => e = .returned (.int .i64 (offE en ts)) ∧ Below w.heap.size w w' := by
  cases ts with
  | nil =>
    obtain ⟨a, c, hb, _⟩ := h.nil
    have c0 : w.cell? ⟨p, 0, none⟩ = some (.slice a 0 c) := hb.cell 0
    have c1 : w.cell? ⟨p, 1, none⟩ = some (.int .i64 en) := hb.cell 1
    clear h hb
    unfold offE
    go_enter Tryz.func75, Tryz.ntmps75
    go_wp2_with fail
    go_ret
    exact ⟨rfl, Below.refl _ _⟩
  | cons t ts =>
    obtain ⟨b, off, c, hb, h1, h2, h3, _, _, _, _, k3, _⟩ := h.cons
    have c0 : w.cell? ⟨p, 0, none⟩ = some (.slice (some ⟨b, off, none⟩) (ts.length + 1) c) := hb.cell 0
    clear h hb
    have l0 : (0 : Int) < ((ts.length + 1 : Nat) : Int) := by omega
    unfold offE
    go_enter Tryz.func75, Tryz.ntmps75
    go_wp2_with fail
    go_ret
    exact ⟨rfl, Below.refl _ _⟩
/-- What the parser panics with. -/
def failE (o : Int) : PanicEntry := { v := .iface 49 (.agg #[.int .i64 o]), recovered := false }
/-- How a call that reads ends, by what the reader answers: it panics at the offset of the tokens where it fails; or it returns. -/
def Rd {α : Type} (S : Nat → Prop) (p : Nat) (en : Int) (w : World) (V : α → Value → World → Prop) (x : PR α) (e : Ending) (w' : World) : Prop := Fx S w w' ∧ match x with
  | .error r => e = .panicked [failE (offE en r)]
  | .ok (a, r) => PS w' p r en ∧ ∃ v, e = .returned v ∧ V a v w'
/-- The parser goes one token on. -/
theorem PS.step {w1 : World} {p c : Nat} {ts : List Tok} {en : Int} {x : Value} {q : Option Addr} (hb : Box w1 p #[x, .int .i64 en] 47) (hs : SlT (fun b => b < p) w1 (.slice q ts.length c) ts) :
    PS (w1.setCell ⟨p, 0, none⟩ (.slice q ts.length c)) p ts en ∧ Fx (fun b => b = p) w1 (w1.setCell ⟨p, 0, none⟩ (.slice q ts.length c)) := by
  refine ⟨⟨_, by simpa using hb.set 0 (.slice q ts.length c), hs.fx (Fx.set w1 p 0 _) (fun b hb _ e => by omega)⟩, Fx.set w1 p 0 _⟩
theorem end_tk {w : World} {b : Nat} {x0 x1 x2 x3 : Value} {t : TypeId} (h : Box w b #[x0, x1, x2, x3] t) (y0 y1 y2 y3 : Value) :
    Box ((((w.setCell ⟨b, 0, none⟩ y0).setCell ⟨b, 1, none⟩ y1).setCell ⟨b, 2, none⟩ y2).setCell ⟨b, 3, none⟩ y3) b #[y0, y1, y2, y3] t := by
  have := (((h.set 0 y0).set 1 y1).set 2 y2).set 3 y3
  simpa using this
theorem fx_set4 (w : World) (g o : Nat) (a0 a1 a2 a3 : Value) : Fx (fun b => b = g) w ((((w.setCell ⟨g, o, none⟩ a0).setCell ⟨g, o + 1, none⟩ a1).setCell ⟨g, o + 2, none⟩ a2).setCell ⟨g, o + 3, none⟩ a3) :=
  (((Fx.set w g o a0).trans (Fx.set _ g (o + 1) a1)).trans (Fx.set _ g (o + 2) a2)).trans (Fx.set _ g (o + 3) a3)
set_option maxRecDepth 100000 in
set_option maxHeartbeats 4000000 in
theorem next_c (w : World) (p : Nat) (ts : List Tok) (en : Int) (cv : Value) (cls : Tok → Bool) (h : PS w p ts en) (hc : ClsAt w cv cls) :
    Calls Tryz.prog 76 #[.pointer (some ⟨p, 0, none⟩), cv] w (Rd (fun b => b = p) p en w (fun t v _ => v = tokV t ∧ TokOk t) (nextP cls ts)) := by
  obtain ⟨W0, hW⟩ : ∃ W0, W0 = w.alloc (.cells #[.int .u8 0, .string ⟨#[]⟩, .int .i64 0, .int .i64 0] 37) := ⟨_, rfl⟩
  have HB : Hid (Below w.heap.size w W0) := hW ▸ held_alloc (Below.refl _ w)
  have bx : Box W0 w.heap.size #[.int .u8 0, .string ⟨#[]⟩, .int .i64 0, .int .i64 0] 37 := hW ▸ Box.new w _ _
  have hp0 := h.lt
  have H := Lib.hid (h.after HB.out)
  obtain ⟨f, cap, rfl, hen, hcl⟩ := hc
  have HC := Lib.hid hcl
  clear hcl h
  cases ts with
  | nil =>
    obtain ⟨a, c, hb, _⟩ := H.out.nil
    have c0 : W0.cell? ⟨p, 0, none⟩ = some (.slice a 0 c) := hb.cell 0
    clear hb bx
    go_enter Tryz.func76, Tryz.ntmps76
    go_upto_region 1 with fail
    rw [← hW]
    clear hW
    go_wp2_with fail
    refine (at_c _ _ _ _ H.out).mono ?_
    rintro e w1 ⟨rfl, hb1⟩
    have HB1 := Lib.hid (HB.out.trans (hb1.mono HB.out.size))
    clear hb1 c0
    go_wp2_with fail
    exact ⟨rfl, Fx.of_below HB1.out, rfl⟩
  | cons t ts =>
    obtain ⟨b, off, c, hb, h1, h2, h3, ht, k0, k1, k2, k3, hq⟩ := H.out.cons
    have HQ := Lib.hid hq
    have HT := Lib.hid ht
    have BP := Lib.hid hb
    have BX := Lib.hid bx
    have hpw := hb.lt
    have c0 : W0.cell? ⟨p, 0, none⟩ = some (.slice (some ⟨b, off, none⟩) (ts.length + 1) c) := hb.cell 0
    have hbw : b < W0.heap.size := Nat.lt_trans h3 hpw
    clear hb bx ht hq
    have l0 : (0 : Int) < ((ts.length + 1 : Nat) : Int) := by omega
    have l1 : (((ts.length + 1 : Nat) : Int) == 0) = false := by simp; omega
    have l2 : (1 : Int) ≤ ((ts.length + 1 : Nat) : Int) := by omega
    have HCW := HC.out W0 t HB.out HT.out
    obtain ⟨x, hx⟩ : ∃ x, nextP cls (t :: ts) = x := ⟨_, rfl⟩
    rw [hx]
    have HX := Lib.hid hx
    clear hx
    go_enter Tryz.func76, Tryz.ntmps76
    go_upto_region 1 with fail
    rw [← hW]
    clear hW
    go_wp2_with fail
    refine HCW.mono ?_
    rintro e w1 ⟨rfl, hb1⟩
    clear HCW
    have HB1 := Lib.hid (HB.out.trans (hb1.mono HB.out.size))
    have BP1 := Lib.hid (BP.out.after hb1)
    have HP1 := Lib.hid (H.out.after hb1)
    replace k0 := keep_cell hb1 k0
    replace k1 := keep_cell hb1 k1
    replace k2 := keep_cell hb1 k2
    replace k3 := keep_cell hb1 k3
    replace c0 := keep_cell hb1 c0
    have HQ1 : Hid (∀ q, (0 < ts.length → q = some ⟨b, off + 4, none⟩) → (q = none → c - 1 = 0) → SlT (fun b => b < p) w1 (.slice q ts.length (c - 1)) ts) := fun q h1 h2 => (HQ.out q h1 h2).fx (S := fun _ => False) (Fx.of_below hb1) (fun _ _ _ e => e)
    have hpw1 := BP1.out.lt
    have BX1 := Lib.hid (BX.out.after hb1)
    have hbw1 : b < w1.heap.size := Nat.lt_of_lt_of_le hbw hb1.size
    clear hb1 hpw hbw
    cases hcls : cls t with
    | false =>
      have HR : Hid (x = .error (t :: ts)) := by show _ = _; rw [← HX.out, nextP_at, if_neg (by rw [hcls]; simp)]
      clear hcls
      go_wp2_with fail
      refine (at_c _ _ _ _ HP1.out).mono ?_
      rintro e w2 ⟨rfl, hb2⟩
      have HB2 := Lib.hid (HB1.out.trans (hb2.mono HB1.out.size))
      clear hb2 c0 k0 k1 k2 k3
      go_wp2_with fail
      rw [HR.out]
      exact ⟨rfl, Fx.of_below HB2.out, rfl⟩
    | true =>
      have HR : Hid (x = .ok (t, ts)) := by show _ = _; rw [← HX.out, nextP_at, if_pos hcls]
      clear hcls
      have fz := BP1.out.frozen 0
      by_cases hc1 : c = 1
      · have hq1 : ts.length = 0 := by omega
        subst hc1
        have hst := PS.step (q := some ⟨b, off, none⟩) BP1.out (HQ1.out _ (fun h => by omega) (by simp))
        rw [hq1, show 1 - 1 = 0 from rfl] at hst
        obtain ⟨hps, hfx⟩ := hst
        obtain ⟨W4, hW4⟩ : ∃ W4, W4 = w1.setCell ⟨p, 0, none⟩ (.slice (some ⟨b, off, none⟩) 0 0) := ⟨_, rfl⟩
        rw [← hW4] at hps hfx
        obtain ⟨W5, hW5⟩ : ∃ W5, W5 = W4.alloc (.cells #[.int .u8 (t.kind : Int), .string (bs t.text), .int .i64 t.num, .int .i64 t.off] 37) := ⟨_, rfl⟩
        have hs4 : W4.heap.size = w1.heap.size := by rw [hW4]; simp [World.setCell]
        have hb5 : Below W4.heap.size W4 W5 := hW5 ▸ held_alloc (Below.refl _ W4)
        have bn : Box W5 W4.heap.size #[.int .u8 (t.kind : Int), .string (bs t.text), .int .i64 t.num, .int .i64 t.off] 37 := hW5 ▸ Box.new W4 _ _
        have bx5 := (BX1.out.fx hfx (by omega)).after hb5
        have HF5 : Hid (Fx (fun b => b = p) w W5) := ((Fx.of_below HB1.out).trans hfx).below hb5
        have HP5 := Lib.hid (hps.after hb5)
        rw [hs4] at bn
        go_upto_region 5 with fail
        rw [← hW4, ← hW5]
        clear hW4 hW5 hb5 hps hfx hs4 c0 k0 k1 k2 k3 fz
        obtain ⟨n0, n1, n2, n3⟩ := bn.cells4
        obtain ⟨x0, x1, x2, x3⟩ := bx5.cells4
        have z0 := bx5.frozen 0
        have z1 := bx5.frozen 1
        have z2 := bx5.frozen 2
        have z3 := bx5.frozen 3
        have HE := Lib.hid (end_tk bx5 (.int .u8 (t.kind : Int)) (.string (bs t.text)) (.int .i64 t.num) (.int .i64 t.off))
        clear bn bx5
        go_wp2_with fail
        obtain ⟨e0, e1, e2, e3⟩ := HE.out.cells4
        refine bodyPost_ret (v := tokV t) (by simp [results, Tryz.results76, go_sem, tokV, e0, e1, e2, e3]) rfl ?_
        have hf6 := fx_set4 W5 w.heap.size 0 (.int .u8 (t.kind : Int)) (.string (bs t.text)) (.int .i64 t.num) (.int .i64 t.off)
        rw [HR.out]
        refine ⟨HF5.out.new hf6 (fun b e => .inr (by omega)), HP5.out.fx hf6 (fun b e => by omega), _, rfl, rfl, HT.out⟩
      · have hc2 : ¬ 1 = c := fun e => hc1 e.symm
        obtain ⟨hps, hfx⟩ := PS.step (q := some ⟨b, off + 4, none⟩) BP1.out (HQ1.out _ (fun _ => rfl) (by simp))
        obtain ⟨W4, hW4⟩ : ∃ W4, W4 = w1.setCell ⟨p, 0, none⟩ (.slice (some ⟨b, off + 4, none⟩) ts.length (c - 1)) := ⟨_, rfl⟩
        rw [← hW4] at hps hfx
        obtain ⟨W5, hW5⟩ : ∃ W5, W5 = W4.alloc (.cells #[.int .u8 (t.kind : Int), .string (bs t.text), .int .i64 t.num, .int .i64 t.off] 37) := ⟨_, rfl⟩
        have hs4 : W4.heap.size = w1.heap.size := by rw [hW4]; simp [World.setCell]
        have hb5 : Below W4.heap.size W4 W5 := hW5 ▸ held_alloc (Below.refl _ W4)
        have bn : Box W5 W4.heap.size #[.int .u8 (t.kind : Int), .string (bs t.text), .int .i64 t.num, .int .i64 t.off] 37 := hW5 ▸ Box.new W4 _ _
        have bx5 := (BX1.out.fx hfx (by omega)).after hb5
        have HF5 : Hid (Fx (fun b => b = p) w W5) := ((Fx.of_below HB1.out).trans hfx).below hb5
        have HP5 := Lib.hid (hps.after hb5)
        rw [hs4] at bn
        go_upto_region 5 with fail
        rw [← hW4, ← hW5]
        clear hW4 hW5 hb5 hps hfx hs4 c0 k0 k1 k2 k3 fz
        obtain ⟨n0, n1, n2, n3⟩ := bn.cells4
        obtain ⟨x0, x1, x2, x3⟩ := bx5.cells4
        have z0 := bx5.frozen 0
        have z1 := bx5.frozen 1
        have z2 := bx5.frozen 2
        have z3 := bx5.frozen 3
        have HE := Lib.hid (end_tk bx5 (.int .u8 (t.kind : Int)) (.string (bs t.text)) (.int .i64 t.num) (.int .i64 t.off))
        clear bn bx5
        go_wp2_with fail
        obtain ⟨e0, e1, e2, e3⟩ := HE.out.cells4
        refine bodyPost_ret (v := tokV t) (by simp [results, Tryz.results76, go_sem, tokV, e0, e1, e2, e3]) rfl ?_
        have hf6 := fx_set4 W5 w.heap.size 0 (.int .u8 (t.kind : Int)) (.string (bs t.text)) (.int .i64 t.num) (.int .i64 t.off)
        rw [HR.out]
        refine ⟨HF5.out.new hf6 (fun b e => .inr (by omega)), HP5.out.fx hf6 (fun b e => by omega), _, rfl, rfl, HT.out⟩
end Go.Proofs.YtganlldidjbpiaaGreatDoor

namespace Go.Proofs.YtganlldidjbpiaaGreatDoor
open Go.RowKit Go.Shelf

theorem run_mkf (fn : Fn) (first cap : Array Value) (w : World) : (Instr.makeFunc fn first cap).run Tryz.prog w = .ok (.func fn first cap) w := rfl
theorem run_fieldT1 (w : World) (k n o : Int) (x : ByteArray) : Sem.run Tryz.prog (Instr.field 37 (.agg #[.int .u8 k, .string x, .int .i64 n, .int .i64 o]) 1) w = .ok (.string x) w := by kernel_rfl
theorem run_fieldT2 (w : World) (k n o : Int) (x : ByteArray) : Sem.run Tryz.prog (Instr.field 37 (.agg #[.int .u8 k, .string x, .int .i64 n, .int .i64 o]) 2) w = .ok (.int .i64 n) w := by kernel_rfl
attribute [local go_sem ↓] run_fieldT1 run_fieldT2
set_option maxRecDepth 100000 in
set_option maxHeartbeats 2000000 in
theorem number_c (w : World) (p : Nat) (ts : List Tok) (en : Int) (h : PS w p ts en) : Calls Tryz.prog 111 #[.pointer (some ⟨p, 0, none⟩)] w (Rd (fun b => b = p) p en w (fun z v _ => v = .int .i64 z ∧ In64 z) (numP ts)) := by
  obtain ⟨x, hx⟩ : ∃ x, numP ts = x := ⟨_, rfl⟩
  rw [hx]
  have HX := Lib.hid hx
  have H := Lib.hid h
  clear hx h
  go_enter Tryz.func111, Tryz.ntmps111
  go_wp2_with fail
  refine (next_c _ p ts en _ numberedT H.out (cls_numbered w)).mono ?_
  rintro e w1 ⟨hf, hr⟩
  have HF := Lib.hid hf
  clear hf
  rcases hn : nextP numberedT ts with r | ⟨t, r⟩
  · rw [hn] at hr
    have HE : Hid (x = .error r) := by show _ = _; rw [← HX.out]; unfold numP; rw [hn]; rfl
    clear hn
    have hr : e = _ := hr
    subst hr
    go_wp2_with fail
    rw [HE.out]
    exact ⟨rfl, HF.out, rfl⟩
  · rw [hn] at hr
    have HE : Hid (x = .ok (t.num, r)) := by show _ = _; rw [← HX.out]; unfold numP; rw [hn]; rfl
    clear hn
    obtain ⟨hp, v, rfl, rfl, ht⟩ := hr
    have HP := Lib.hid hp
    have HT := Lib.hid ht
    clear hp ht
    unfold tokV
    go_wp2_with fail
    go_ret
    rw [HE.out]
    exact ⟨HF.out, HP.out, _, rfl, rfl, HT.out.2.1⟩
set_option maxRecDepth 100000 in
set_option maxHeartbeats 2000000 in
theorem name_c (N : Nat) (w : World) (p : Nat) (ts : List Tok) (en : Int) (h : PS w p ts en) (hN : N ≤ w.heap.size) (he : Wds N w) : Calls Tryz.prog 108 #[.pointer (some ⟨p, 0, none⟩)] w (Rd (fun b => b = p) p en w (fun n v _ => v = .string (bs n) ∧ n.length ≤ 9223372036854775807) (nameP ts)) := by
  obtain ⟨x, hx⟩ : ∃ x, nameP ts = x := ⟨_, rfl⟩
  rw [hx]
  have HX := Lib.hid hx
  have H := Lib.hid h
  have HC := Lib.hid (cls_named hN he)
  clear hx h he
  go_enter Tryz.func108, Tryz.ntmps108
  go_wp2_with fail
  refine (next_c _ p ts en _ namedT H.out HC.out).mono ?_
  rintro e w1 ⟨hf, hr⟩
  have HF := Lib.hid hf
  clear hf
  rcases hn : nextP namedT ts with r | ⟨t, r⟩
  · rw [hn] at hr
    have HE : Hid (x = .error r) := by show _ = _; rw [← HX.out]; unfold nameP; rw [hn]; rfl
    clear hn
    have hr : e = _ := hr
    subst hr
    go_wp2_with fail
    rw [HE.out]
    exact ⟨rfl, HF.out, rfl⟩
  · rw [hn] at hr
    have HE : Hid (x = .ok (t.text, r)) := by show _ = _; rw [← HX.out]; unfold nameP; rw [hn]; rfl
    clear hn
    obtain ⟨hp, v, rfl, rfl, ht⟩ := hr
    have HP := Lib.hid hp
    have HT := Lib.hid ht
    clear hp ht
    unfold tokV
    go_wp2_with fail
    go_ret
    rw [HE.out]
    exact ⟨HF.out, HP.out, _, rfl, rfl, HT.out.2.2.2⟩
set_option maxRecDepth 100000 in
set_option maxHeartbeats 2000000 in
theorem want_c (w : World) (p : Nat) (ts : List Tok) (en : Int) (s : List UInt8) (h : PS w p ts en) : Calls Tryz.prog 78 #[.pointer (some ⟨p, 0, none⟩), .string (bs s)] w (Rd (fun b => b = p) p en w (fun _ v _ => v = .tuple #[]) (wantP s ts)) := by
  obtain ⟨W0, hW⟩ : ∃ W0, W0 = w.alloc (.cells #[.string (bs s)] 9) := ⟨_, rfl⟩
  have HB : Hid (Below w.heap.size w W0) := hW ▸ held_alloc (Below.refl _ w)
  have bx : Box W0 w.heap.size #[.string (bs s)] 9 := hW ▸ Box.new w _ _
  have HC : Hid (ClsAt W0 (.func (.func 107) #[] #[.pointer (some ⟨w.heap.size, 0, none⟩)]) (fun t => t.text == s)) := cls_want (bx.cell 0)
  have H := Lib.hid (h.after HB.out)
  have hmf := run_mkf
  obtain ⟨x, hx⟩ : ∃ x, wantP s ts = x := ⟨_, rfl⟩
  rw [hx]
  have HX : Hid (nextP (fun t => t.text == s) ts = x) := hx
  clear hx h bx
  go_enter Tryz.func78, Tryz.ntmps78
  go_upto_region 1 with fail
  rw [← hW]
  clear hW
  go_wp2_with fail
  refine (next_c _ p ts en _ _ H.out HC.out).mono ?_
  rw [HX.out]
  rintro e w1 ⟨hf, hr⟩
  have HF := Lib.hid ((Fx.of_below HB.out).trans hf)
  clear hf
  rcases x with r | ⟨t, r⟩
  · have hr : e = _ := hr
    subst hr
    go_wp2_with fail
    exact ⟨rfl, HF.out, rfl⟩
  · obtain ⟨hp, v, rfl, rfl, ht⟩ := hr
    have HP := Lib.hid hp
    clear hp ht
    go_wp2_with fail
    go_end0
    exact ⟨HF.out, HP.out, _, rfl, rfl⟩
/-- What have answers, and the tokens behind it. -/
def haveF (s : List UInt8) : List Tok → Bool × List Tok
  | [] => (false, [])
  | t :: r => if t.text == s then (true, r) else (false, t :: r)
set_option maxRecDepth 100000 in
set_option maxHeartbeats 4000000 in
theorem have_c (w : World) (p : Nat) (ts : List Tok) (en : Int) (s : List UInt8) (h : PS w p ts en) : Calls Tryz.prog 109 #[.pointer (some ⟨p, 0, none⟩), .string (bs s)] w fun e w' => e = .returned (.bool (haveF s ts).1) ∧ PS w' p (haveF s ts).2 en ∧ Fx (fun b => b = p) w w' := by
  have H := Lib.hid h
  cases ts with
  | nil =>
    obtain ⟨a, c, hb, _⟩ := h.nil
    have c0 : w.cell? ⟨p, 0, none⟩ = some (.slice a 0 c) := hb.cell 0
    clear h hb
    unfold haveF
    go_enter Tryz.func109, Tryz.ntmps109
    go_wp2_with fail
    go_ret
    exact ⟨rfl, H.out, Fx.refl _ _⟩
  | cons t ts =>
    obtain ⟨b, off, c, hb, h1, h2, h3, ht, k0, k1, k2, k3, hq⟩ := H.out.cons
    have HQ := Lib.hid hq
    have BP := Lib.hid hb
    have hpw := hb.lt
    have c0 : w.cell? ⟨p, 0, none⟩ = some (.slice (some ⟨b, off, none⟩) (ts.length + 1) c) := hb.cell 0
    have hbw : b < w.heap.size := Nat.lt_trans h3 hpw
    have fz := hb.frozen 0
    clear hb ht hq h k0 k2 k3
    have l0 : (0 : Int) < ((ts.length + 1 : Nat) : Int) := by omega
    have l1 : (((ts.length + 1 : Nat) : Int) == 0) = false := by simp; omega
    have l2 : (1 : Int) ≤ ((ts.length + 1 : Nat) : Int) := by omega
    obtain ⟨x, hx⟩ : ∃ x, t.text = x := ⟨_, rfl⟩
    obtain ⟨y, hy⟩ : ∃ y, haveF s (t :: ts) = y := ⟨_, rfl⟩
    rw [hy]
    rw [hx] at k1
    have hy : (if t.text == s then (true, ts) else (false, t :: ts)) = y := hy
    rw [hx] at hy
    clear hx
    by_cases he : x = s
    · subst he
      have HY : Hid (y = (true, ts)) := by show _ = _; rw [← hy, beq_self_eq_true]; rfl
      have q1 := bs_eq_self x
      clear hy
      by_cases hc1 : c = 1
      · have hq1 : ts.length = 0 := by omega
        subst hc1
        have hst := PS.step (q := some ⟨b, off, none⟩) BP.out (HQ.out _ (fun h => by omega) (by simp))
        rw [hq1, show 1 - 1 = 0 from rfl] at hst
        have HST := Lib.hid hst
        clear hst
        go_enter Tryz.func109, Tryz.ntmps109
        go_wp2_with fail
        go_ret
        rw [HY.out]
        exact ⟨rfl, HST.out⟩
      · have hc2 : ¬ 1 = c := fun e => hc1 e.symm
        have HST := Lib.hid (PS.step (q := some ⟨b, off + 4, none⟩) BP.out (HQ.out _ (fun h => rfl) (by simp)))
        go_enter Tryz.func109, Tryz.ntmps109
        go_wp2_with fail
        go_ret
        rw [HY.out]
        exact ⟨rfl, HST.out⟩
    · have q1 := bs_eq_no he
      have q2 : ((bs x).toList != (bs s).toList) = true := by rw [bne, q1]; rfl
      have HY : Hid (y = (false, t :: ts)) := by show _ = _; rw [← hy, beq_eq_false_iff_ne.2 he]; rfl
      clear hy
      go_enter Tryz.func109, Tryz.ntmps109
      go_wp2_with fail
      go_ret
      rw [HY.out]
      exact ⟨rfl, H.out, Fx.refl _ _⟩
end Go.Proofs.YtganlldidjbpiaaGreatDoor

namespace Go.Proofs.YtganlldidjbpiaaGreatDoor
open Go.RowKit Go.Shelf

/-- The state of such a region: before operation n by J; from there on what is left is walked in order. -/
def TailJ (P : Program) (ops : Array Oper) (Q : Exit → Act → World → Prop) (n : Nat) (J : Array Bool → Act → World → Prop) (listed : Array Bool) (a : Act) (w : World) : Prop :=
  listed.size = ops.size ∧ (((∀ k, n ≤ k → ¬ up listed k) ∧ J listed a w) ∨ ∃ i, n < i ∧ i ≤ ops.size ∧ (∀ k, k < ops.size → (up listed k ↔ k < i)) ∧ wpOps P ops Q (List.range' i (ops.size - i)) a w)
/-- Operation i waits for operation j, through others too. -/
def reach (ops : Array Oper) : Nat → Nat → Nat → Bool
  | 0, _, _ => false
  | f + 1, i, j => waitsOn ops i j || (List.range i).any fun m => waitsOn ops i m && reach ops f m j
theorem reach_of_up {ops : Array Oper} {listed : Array Bool} (hc : ∀ i j, up listed i → waitsOn ops i j = true → up listed j) : ∀ (f i j : Nat), up listed i → reach ops f i j = true → up listed j
  | 0, _, _, _, h => by cases h
  | f + 1, i, j, hi, h => by
    unfold reach at h
    rw [Bool.or_eq_true] at h
    rcases h with h | h
    · exact hc i j hi h
    · obtain ⟨m, _, hm⟩ := List.any_eq_true.1 h
      rw [Bool.and_eq_true] at hm
      exact reach_of_up hc f m j (hc i m hi hm.1) hm.2
theorem reach_ready {ops : Array Oper} {listed : Array Bool} (hc : ∀ i j, up listed i → waitsOn ops i j = true → up listed j) {n : Nat} (hr : n ∈ Region.ready .any ops listed) {f j : Nat} (h : reach ops (f + 1) n j = true) : up listed j := by
  unfold reach at h
  rw [Bool.or_eq_true] at h
  rcases h with h | h
  · exact up_dep hr h
  · obtain ⟨m, _, hm⟩ := List.any_eq_true.1 h
    rw [Bool.and_eq_true] at hm
    exact reach_of_up hc f m j (up_dep hr hm.1) hm.2
/-- From operation n on each one waits for the one before it; n waits for all before it, through others too. -/
def tailR (ops : Array Oper) (n : Nat) : Bool := (List.range n).all (fun j => reach ops (n + 1) n j) && (List.range ops.size).all fun k => decide (k ≤ n) || waitsOn ops k (k - 1)
theorem wp_gj_tail {P : Program} {ops : Array Oper} {Q : Exit → Act → World → Prop} {S : Array Bool → Nat → Value → World → Prop} {C : Array Bool → (Nat → Value) → World → Prop} {id : Nat} {a : Act} {w : World} (n : Nat) (hm : P.follows .mixedOrders = true) (hn : n < ops.size) (hb : backward ops = true) (ht : tailR ops n = true)
    (hstep : ∀ listed a' w i, i < n → i ∈ Region.ready .any ops listed → GJ ops S C a listed a' w → OpOut P ops Q i (GJ ops S C a (listed.setIfInBounds i true)) a' w)
    (hend : ∀ listed a' w, (∀ k, k < n → up listed k) → GJ ops S C a listed a' w → wpList P ops Q (ops.toList.drop n) a' w)
    (h0 : GJ ops S C a (Array.replicate ops.size false) a w.drew) : (Code.region id ops true).wp P Q a w := by
  unfold tailR at ht
  rw [Bool.and_eq_true, List.all_eq_true, List.all_eq_true] at ht
  have tnext : ∀ k, k < ops.size → n < k → waitsOn ops k (k - 1) = true := by
    intro k hk hnk
    have := ht.2 k (List.mem_range.2 hk)
    rw [Bool.or_eq_true] at this
    rcases this with h1 | h1
    · have := of_decide_eq_true h1; omega
    · exact h1
  refine wp_region_inv (J := TailJ P ops Q n (GJ ops S C a)) hm ?_ ?_ ⟨by simp, .inl ⟨fun k _ => up_none _ _, h0⟩⟩
  · intro listed a w i hr ⟨hs, hj⟩
    obtain ⟨hi, hun, _⟩ := ready_mem hr
    have hnu : ¬ up listed i := not_up hun
    have next : ∀ k, k < ops.size → (∀ m, m < ops.size → (up listed m ↔ m < k)) → i = k → ∀ m, m < ops.size → (up (listed.setIfInBounds i true) m ↔ m < k + 1) := by
      intro k hk hu hik m hm
      subst hik
      by_cases e : m = i
      · subst e
        exact ⟨fun _ => by omega, fun _ => up_self (by omega)⟩
      · exact ⟨fun h => by have := (hu m hm).1 (up_set h e); omega, fun h => up_keep ((hu m hm).2 (by omega))⟩
    have walk : ∀ k, k < ops.size → wpOps P ops Q (List.range' k (ops.size - k)) a w → wpOp P ops Q k (wpOps P ops Q (List.range' (k + 1) (ops.size - (k + 1)))) a w := by
      intro k hk hw
      rw [show ops.size - k = (ops.size - (k + 1)) + 1 by omega, List.range'_succ, wpOps_cons] at hw
      exact hw
    rcases hj with ⟨hlow, hj⟩ | ⟨k, hk, hks, hu, hw⟩
    · rcases Nat.lt_trichotomy i n with h | h | h
      · refine wpOp_mono (fun a w hj' => ⟨by simp [hs], .inl ⟨fun k hk hu => ?_, hj'⟩⟩) (hstep listed a w i h hr hj).out
        exact hlow k hk (up_set hu (by omega))
      · subst h
        have hall : ∀ j, j < i → up listed j := fun j hj' => reach_ready hj.closed hr (ht.1 j (List.mem_range.2 hj'))
        have hl := hend listed a w hall hj
        have he : wpOps P ops Q (List.range' i (ops.size - i)) a w := by
          have := wpOps_eq_wpList (P := P) (ops := ops) (Q := Q) (ops.toList.drop i) i (fun j => by rw [List.getElem?_drop, Array.getElem?_toList])
          rw [List.length_drop, Array.length_toList] at this
          rw [this]; exact hl
        have hu : ∀ m, m < ops.size → (up listed m ↔ m < i) := fun m hm => ⟨fun h => by
          rcases Nat.lt_or_ge m i with h1 | h1
          · exact h1
          · exact absurd h (hlow m h1), fun h => hall m h⟩
        refine wpOp_mono (fun a w hw' => ⟨by simp [hs], .inr ⟨i + 1, by omega, by omega, next i hi hu rfl, hw'⟩⟩) (walk i hi he)
      · exact absurd (up_dep hr (tnext i hi h)) (hlow _ (by omega))
    · have hik : i = k := by
        have h1 : ¬ i < k := fun h => hnu ((hu i hi).2 h)
        rcases Nat.lt_or_ge k i with h2 | h2
        · have h3 := up_dep hr (tnext i hi (by omega))
          have := (hu (i - 1) (by omega)).1 h3
          omega
        · omega
      subst hik
      exact wpOp_mono (fun a w hw' => ⟨by simp [hs], .inr ⟨i + 1, by omega, by omega, next i hi hu rfl, hw'⟩⟩) (walk i hi hw)
  · intro listed a w hr ⟨hs, hj⟩
    have hall : ∀ k, k < ops.size → up listed k := fun k hk => all_up hb hs hr k hk
    rcases hj with ⟨hlow, _⟩ | ⟨k, hk, hks, hu, hw⟩
    · exact absurd (hall n hn) (hlow n (Nat.le_refl _))
    · have : k = ops.size := by
        rcases Nat.lt_or_ge k ops.size with h | h
        · have := (hu k h).1 (hall k h); omega
        · omega
      subst this
      rw [Nat.sub_self] at hw
      exact hw
/-- Every operation from n on waits for all before n, through others too. -/
def allPre (ops : Array Oper) (n : Nat) : Bool := (List.range ops.size).all fun i => decide (i < n) || (List.range n).all fun j => reach ops (i + 1) i j
/-- A region in two parts: the operations before n by one invariant; those from n on by another one, which is told when the first part is done. -/
theorem wp_gj_two {P : Program} {ops : Array Oper} {Q : Exit → Act → World → Prop} {S : Array Bool → Nat → Value → World → Prop} {C : Array Bool → (Nat → Value) → World → Prop} {id : Nat} {a : Act} {w : World} (n : Nat) (hm : P.follows .mixedOrders = true) (hn : n < ops.size) (hb : backward ops = true) (ht : allPre ops n = true)
    (hstep : ∀ listed a' w i, i < n → i ∈ Region.ready .any ops listed → GJ ops S C a listed a' w → OpOut P ops Q i (GJ ops S C a (listed.setIfInBounds i true)) a' w)
    (hmid : ∀ listed a' w, (∀ k, k < n → up listed k) → (∀ k, n ≤ k → ¬ up listed k) → GJ ops S C a listed a' w → ∃ S2 C2, GJ ops S2 C2 a listed a' w ∧
      (∀ listed a' w i, n ≤ i → (∀ k, k < n → up listed k) → i ∈ Region.ready .any ops listed → GJ ops S2 C2 a listed a' w → OpOut P ops Q i (GJ ops S2 C2 a (listed.setIfInBounds i true)) a' w) ∧
      ∀ listed a' w, (∀ k, k < ops.size → up listed k) → GJ ops S2 C2 a listed a' w → Q .normal a' w)
    (h0 : GJ ops S C a (Array.replicate ops.size false) a w.drew) : (Code.region id ops true).wp P Q a w := by
  unfold allPre at ht
  rw [List.all_eq_true] at ht
  have hpre : ∀ i, i < ops.size → n ≤ i → ∀ j, j < n → reach ops (i + 1) i j = true := by
    intro i hi hni j hj
    have := ht i (List.mem_range.2 hi)
    rw [Bool.or_eq_true] at this
    rcases this with h1 | h1
    · have := of_decide_eq_true h1; omega
    · exact List.all_eq_true.1 h1 j (List.mem_range.2 hj)
  refine wp_region_inv (J := fun listed a' w => listed.size = ops.size ∧ (((∀ k, n ≤ k → ¬ up listed k) ∧ GJ ops S C a listed a' w) ∨ ((∀ k, k < n → up listed k) ∧ ∃ S2 C2, GJ ops S2 C2 a listed a' w ∧
      (∀ listed a' w i, n ≤ i → (∀ k, k < n → up listed k) → i ∈ Region.ready .any ops listed → GJ ops S2 C2 a listed a' w → OpOut P ops Q i (GJ ops S2 C2 a (listed.setIfInBounds i true)) a' w) ∧
      ∀ listed a' w, (∀ k, k < ops.size → up listed k) → GJ ops S2 C2 a listed a' w → Q .normal a' w))) hm ?_ ?_ ⟨by simp, .inl ⟨fun k _ => up_none _ _, h0⟩⟩
  · intro listed a' w i hr ⟨hs, hj⟩
    obtain ⟨hi, hun, _⟩ := ready_mem hr
    have hnu : ¬ up listed i := not_up hun
    rcases hj with ⟨hlow, hj⟩ | ⟨hall, S2, C2, hj, h2, h3⟩
    · rcases Nat.lt_or_ge i n with h | h
      · refine wpOp_mono (fun a w hj' => ⟨by simp [hs], .inl ⟨fun k hk hu => ?_, hj'⟩⟩) (hstep listed a' w i h hr hj).out
        exact hlow k hk (up_set hu (by omega))
      · have hall : ∀ j, j < n → up listed j := fun j hj' => reach_ready hj.closed hr (hpre i hi h j hj')
        obtain ⟨S2, C2, hj2, h2, h3⟩ := hmid listed a' w hall hlow hj
        exact wpOp_mono (fun a w hj' => ⟨by simp [hs], .inr ⟨fun k hk => up_keep (hall k hk), S2, C2, hj', h2, h3⟩⟩) (h2 listed a' w i h hall hr hj2).out
    · rcases Nat.lt_or_ge i n with h | h
      · exact absurd (hall i h) hnu
      · exact wpOp_mono (fun a w hj' => ⟨by simp [hs], .inr ⟨fun k hk => up_keep (hall k hk), S2, C2, hj', h2, h3⟩⟩) (h2 listed a' w i h hall hr hj).out
  · intro listed a' w hr ⟨hs, hj⟩
    have hall : ∀ k, k < ops.size → up listed k := fun k hk => all_up hb hs hr k hk
    rcases hj with ⟨hlow, _⟩ | ⟨_, S2, C2, hj, _, h3⟩
    · exact absurd (hall n hn) (hlow n (Nat.le_refl _))
    · exact h3 listed a' w hall hj
/-- A guard that is not known: its operation is not wanted. -/
theorem wanted_undef {ops : Array Oper} {o oj : Oper} {tm : Array Value} {j tj : Nat} {b : Bool} (hg : o.guard = some (j, b)) (hj : ops[j]? = some oj) (htj : oj.dst = some tj) (hv : tm.getD tj undef = undef) : Region.wanted o (yielded ops tm) = false := by
  unfold Region.wanted
  rw [hg]
  simp only [yielded, hj, Option.bind_some, htj]
  rcases h : tm[tj]? with _ | v
  · rfl
  · rw [Array.getD_eq_getD_getElem?, h] at hv
    have hv : v = undef := hv
    rw [hv]
    rfl
section
variable {ops : Array Oper} {S : Array Bool → Nat → Value → World → Prop} {C : Array Bool → (Nat → Value) → World → Prop} {a0 a : Act} {listed : Array Bool} {w w' : World}
theorem GJ.yes {P : Program} {Q : Exit → Act → World → Prop} {i j tj : Nat} {b c : Bool} {o oj : Oper} (h : GJ ops S C a0 listed a w) (hd : dstOnce ops = true) (hr : i ∈ Region.ready .any ops listed) (ho : ops[i]? = some o) (D : List Nat) (hD : dstIn ops D a0.tmps.size = true)
    (hg : o.guard = some (j, b)) (hj : ops[j]? = some oj) (htj : oj.dst = some tj) (hv : a.tmps.getD tj undef = .bool c) (hcb : (c == b) = true)
    (hrun : ∀ K : Act → World → Prop, (∀ v w', (∀ k v, k ≠ i → up listed k → S listed k v w → S (listed.setIfInBounds i true) k v w') → (∀ t, o.dst = some t → S (listed.setIfInBounds i true) i v w') →
      C (listed.setIfInBounds i true) (fun t => (a.put o.dst v).tmps.getD t undef) w' → K (a.put o.dst v) w') → o.wp P a w K Q) :
    OpOut P ops Q i (GJ ops S C a0 (listed.setIfInBounds i true)) a w := by
  have hk := hrun (GJ ops S C a0 (listed.setIfInBounds i true)) (fun v w' h1 h2 h3 => h.step hd hr ho (fun _ ht => (dstIn_spec hD ho ht).2) h1 h2 h3)
  refine ⟨?_⟩
  unfold wpOp
  simp only [ho]
  rw [if_pos (by rw [wanted_of hg hj htj hv]; exact hcb)]
  exact .inl hk
theorem GJ.no {P : Program} {Q : Exit → Act → World → Prop} {i j tj : Nat} {b c : Bool} {o oj : Oper} (h : GJ ops S C a0 listed a w) (hd : dstOnce ops = true) (hr : i ∈ Region.ready .any ops listed) (ho : ops[i]? = some o) (D : List Nat) (hD : dstIn ops D a0.tmps.size = true)
    (hg : o.guard = some (j, b)) (hj : ops[j]? = some oj) (htj : oj.dst = some tj) (hv : a.tmps.getD tj undef = .bool c) (hcb : (c == b) = false)
    (hS : ∀ k v, k ≠ i → up listed k → S listed k v w → S (listed.setIfInBounds i true) k v w) (hv' : ∀ t, o.dst = some t → S (listed.setIfInBounds i true) i undef w)
    (hC : C (listed.setIfInBounds i true) (fun t => (a.put o.dst undef).tmps.getD t undef) w) :
    OpOut P ops Q i (GJ ops S C a0 (listed.setIfInBounds i true)) a w := by
  have hk := h.step (v := undef) (w' := w) hd hr ho (fun _ ht => (dstIn_spec hD ho ht).2) hS hv' hC
  refine ⟨?_⟩
  unfold wpOp
  simp only [ho]
  rw [if_neg (by rw [wanted_of hg hj htj hv, hcb]; simp)]
  exact hk
theorem GJ.nou {P : Program} {Q : Exit → Act → World → Prop} {i j tj : Nat} {b : Bool} {o oj : Oper} (h : GJ ops S C a0 listed a w) (hd : dstOnce ops = true) (hr : i ∈ Region.ready .any ops listed) (ho : ops[i]? = some o) (D : List Nat) (hD : dstIn ops D a0.tmps.size = true)
    (hg : o.guard = some (j, b)) (hj : ops[j]? = some oj) (htj : oj.dst = some tj) (hv : a.tmps.getD tj undef = undef)
    (hS : ∀ k v, k ≠ i → up listed k → S listed k v w → S (listed.setIfInBounds i true) k v w) (hv' : ∀ t, o.dst = some t → S (listed.setIfInBounds i true) i undef w)
    (hC : C (listed.setIfInBounds i true) (fun t => (a.put o.dst undef).tmps.getD t undef) w) :
    OpOut P ops Q i (GJ ops S C a0 (listed.setIfInBounds i true)) a w := by
  have hk := h.step (v := undef) (w' := w) hd hr ho (fun _ ht => (dstIn_spec hD ho ht).2) hS hv' hC
  refine ⟨?_⟩
  unfold wpOp
  simp only [ho]
  rw [if_neg (by rw [wanted_undef hg hj htj hv]; simp)]
  exact hk
end
/-- Other words for the same state. -/
theorem GJ.change {ops : Array Oper} {S S2 : Array Bool → Nat → Value → World → Prop} {C C2 : Array Bool → (Nat → Value) → World → Prop} {a0 a : Act} {listed : Array Bool} {w : World} (h : GJ ops S C a0 listed a w) (hC : C2 listed (fun t => a.tmps.getD t undef) w)
    (hS : ∀ (k : Nat) (o : Oper) (t : Nat), ops[k]? = some o → o.dst = some t → up listed k → S2 listed k (a.tmps.getD t undef) w) : GJ ops S2 C2 a0 listed a w :=
  ⟨hC, h.defers, h.size, h.lsize, h.closed, h.old, hS⟩
/-- What an operation yields: a fact that stands where only blocks of S turn. -/
structure KS (S : Nat → Prop) where
  F : Value → World → Prop
  st : ∀ v w w', Fx S w w' → F v w → F v w'
def KS.eq {S : Nat → Prop} (u : Value) : KS S := ⟨fun v _ => v = u, fun _ _ _ _ h => h⟩
def KS.any {S : Nat → Prop} : KS S := ⟨fun _ _ => True, fun _ _ _ _ h => h⟩
def KS.pure {S : Nat → Prop} (P : Value → Prop) : KS S := ⟨fun v _ => P v, fun _ _ _ _ h => h⟩
/-- A new block. -/
def KS.blk {S : Nat → Prop} (B : Nat) (cs : Array Value) (t : TypeId) (hS : ∀ b, S b → b < B) : KS S :=
  ⟨fun v w => ∃ g, B ≤ g ∧ v = .slice (some ⟨g, 0, none⟩) 1 1 ∧ Box w g cs t, fun _ _ _ hf ⟨g, h1, h2, h3⟩ => ⟨g, h1, h2, h3.fx hf (fun e => by have := hS g e; omega)⟩⟩
def KS.cl {S : Nat → Prop} (B : Nat) (P : Cl → Prop) (hS : ∀ b, S b → b < B) : KS S :=
  ⟨fun v w => ∃ c, P c ∧ IsC (fun b => B ≤ b) w v c, fun _ _ _ hf ⟨c, hp, h⟩ => ⟨c, hp, h.fx hf (fun b hb _ e => by have := hS b e; omega)⟩⟩
abbrev SKS {S : Nat → Prop} (K : Nat → KS S) : Array Bool → Nat → Value → World → Prop := fun _ k v w => (K k).F v w
/-- Operation i0 is the call that reads; the others leave the parser as it is. -/
def CP {α : Type} (S : Nat → Prop) (W0 : World) (p : Nat) (en : Int) (i0 : Nat) (ts : List Tok) (x : PR α) (l : Array Bool) (_ : Nat → Value) (w : World) : Prop :=
  Fx S W0 w ∧ (¬ up l i0 → PS w p ts en) ∧ (up l i0 → ∃ a r, x = .ok (a, r) ∧ PS w p r en)
section
variable {α : Type} {S : Nat → Prop} {W0 w w' : World} {p i0 i : Nat} {en : Int} {ts : List Tok} {x : PR α} {l : Array Bool} {f g : Nat → Value}
theorem CP.start {n : Nat} (h : PS W0 p ts en) : CP S W0 p en i0 ts x (Array.replicate n false) f W0.drew := ⟨(Fx.refl S W0).drew, fun _ => h.fx (S := fun _ => False) ((Fx.refl _ W0).drew) (fun _ e => e.elim), fun h => absurd h (up_none _ _)⟩
theorem CP.keep (h : CP S W0 p en i0 ts x l f w) (hi : i0 ≠ i) (hb : Below w.heap.size w w') : CP S W0 p en i0 ts x (l.setIfInBounds i true) g w' := by
  obtain ⟨h1, h2, h3⟩ := h
  refine ⟨h1.below hb, fun u => (h2 (fun u' => u (up_keep u'))).after hb, fun u => ?_⟩
  obtain ⟨a, r, e, hp⟩ := h3 (up_set u hi)
  exact ⟨a, r, e, hp.after hb⟩
theorem CP.put {a : α} {r : List Tok} (h : CP S W0 p en i0 ts x l f w) (hl : i0 < l.size) (hf : Fx S w w') (e : x = .ok (a, r)) (hp : PS w' p r en) : CP S W0 p en i0 ts x (l.setIfInBounds i0 true) g w' :=
  ⟨h.1.trans hf, fun u => absurd (up_self hl) u, fun _ => ⟨a, r, e, hp⟩⟩
end
end Go.Proofs.YtganlldidjbpiaaGreatDoor
