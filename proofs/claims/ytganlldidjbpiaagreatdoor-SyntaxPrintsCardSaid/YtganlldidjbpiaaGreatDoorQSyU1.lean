/- Syntax, the reference: the parser's state; offset, fail, is, take, number. -/
import Derived.Test.YtganlldidjbpiaaGreatDoorK22
set_option linter.unusedVariables false
namespace Go.Proofs.YtganlldidjbpiaaGreatDoor
open Go.RowKit Go.Shelf

/-- The reference's parser at block p, as it is. -/
def RB (w : World) (p : Nat) (ts : List Tok) (en : Int) (k : Nat) (e off : Int) : Prop := ∃ v, Box w p #[v, .int .i64 (k : Int), .int .i64 en, .int .i64 e, .int .i64 off] 54 ∧ SlT (fun b => b < p) w v ts ∧ k ≤ ts.length
/-- What is left of the tokens, or where it failed. -/
def RP (w : World) (p : Nat) (ts : List Tok) (en : Int) : Except (List Tok) (List Tok) → Prop
  | .ok r => ∃ k off, RB w p ts en k 0 off ∧ r = ts.drop k
  | .error r => ∃ k, RB w p ts en k 4 (offE en r)
theorem RB.fx {S : Nat → Prop} {w W : World} {p k : Nat} {ts : List Tok} {en e off : Int} (h : RB w p ts en k e off) (hf : Fx S w W) (hS : ∀ b, S b → p < b) : RB W p ts en k e off := by
  obtain ⟨v, h1, h2, h3⟩ := h
  exact ⟨v, h1.fx hf (fun hs => by have := hS p hs; omega), h2.fx hf (fun b hb _ hs => by have := hS b hs; omega), h3⟩
theorem RB.after {w W : World} {p k : Nat} {ts : List Tok} {en e off : Int} (h : RB w p ts en k e off) (hb : Below w.heap.size w W) : RB W p ts en k e off := by
  obtain ⟨v, h1, h2, h3⟩ := h
  exact ⟨v, h1.after hb, h2.fx (S := fun _ => False) (Fx.of_below hb) (fun _ _ _ e => e), h3⟩
theorem RP.after {w W : World} {p : Nat} {ts : List Tok} {en : Int} {s : Except (List Tok) (List Tok)} (h : RP w p ts en s) (hb : Below w.heap.size w W) : RP W p ts en s := by
  cases s with
  | ok r => obtain ⟨k, off, h1, h2⟩ := h; exact ⟨k, off, h1.after hb, h2⟩
  | error r => obtain ⟨k, h1⟩ := h; exact ⟨k, h1.after hb⟩
theorem SlT.tok_at {D : Nat → Prop} {w : World} {v : Value} {ts : List Tok} (h : SlT D w v ts) {k : Nat} (hk : k < ts.length) : ∃ b off cap t, v = .slice (some ⟨b, off, none⟩) ts.length cap ∧ ts.length ≤ cap ∧ cap ≤ 9223372036854775807 ∧ b < w.heap.size ∧ ts.drop k = t :: ts.drop (k + 1) ∧ TokOk t ∧
    w.cell? ⟨b, off + k * 4, none⟩ = some (.int .u8 (t.kind : Int)) ∧ w.cell? ⟨b, off + k * 4 + 1, none⟩ = some (.string (bs t.text)) ∧ w.cell? ⟨b, off + k * 4 + 2, none⟩ = some (.int .i64 t.num) ∧ w.cell? ⟨b, off + k * 4 + 3, none⟩ = some (.int .i64 t.off) := by
  obtain ⟨h0, h⟩ := h
  obtain ⟨b, off, cap, e, h2, h3, hD, hlt, hc⟩ := h.at_ (by omega)
  have hd : ts.drop k = tok ts k :: ts.drop (k + 1) := by
    unfold tok
    rw [List.getD_eq_getElem?_getD, List.getElem?_eq_getElem hk]
    exact List.drop_eq_getElem_cons hk
  have hm : tok ts k ∈ ts := by
    unfold tok
    rw [List.getD_eq_getElem?_getD, List.getElem?_eq_getElem hk]
    exact List.getElem_mem hk
  refine ⟨b, off, cap, tok ts k, e, h2, h3, hlt, hd, h0 _ hm, hc k hk 0 (by omega), hc k hk 1 (by omega), hc k hk 2 (by omega), hc k hk 3 (by omega)⟩
set_option maxRecDepth 100000 in
set_option maxHeartbeats 4000000 in
theorem roffset_c (w : World) (p : Nat) (ts : List Tok) (en : Int) (k : Nat) (e off : Int) (h : RB w p ts en k e off) : Calls Tryz.prog 40 #[.pointer (some ⟨p, 0, none⟩)] w fun e w' => e = .returned (.int .i64 (offE en (ts.drop k))) ∧ Below w.heap.size w w' := by
  obtain ⟨v, hb, hs, hk⟩ := h
  obtain ⟨z, hz⟩ : ∃ z, offE en (ts.drop k) = z := ⟨_, rfl⟩
  rw [hz]
  have c0 := hb.cell 0
  have c1 : w.cell? ⟨p, 1, none⟩ = some (.int .i64 (k : Int)) := hb.cell 1
  have c2 : w.cell? ⟨p, 2, none⟩ = some (.int .i64 en) := hb.cell 2
  have hlp := hb.lt
  by_cases hlt : k < ts.length
  · obtain ⟨b, o, cap, t, rfl, h2, h3, hlb, hd, _, k0, k1, k2, k3⟩ := hs.tok_at hlt
    rw [hd] at hz
    have HZ : Hid (t.off = z) := hz
    have c0 : w.cell? ⟨p, 0, none⟩ = some (.slice (some ⟨b, o, none⟩) ts.length cap) := c0
    have q1 : (k : Int) < (ts.length : Int) := by omega
    have q2 : decide ((k : Int) < (ts.length : Int)) = true := decide_eq_true q1
    have q3 : (0 : Int) ≤ (k : Int) := by omega
    clear hb hs hd hz k0 k1 k2
    go_enter Tryz.func40, Tryz.ntmps40
    go_wp2_with fail
    go_quiet (fail)
    go_wp2_with fail
    go_quiet (fail)
    go_wp2_with fail
    go_ret
    exact ⟨by rw [HZ.out]; rfl, (below_drewN _ _ _).trans (below_drewN _ _ _)⟩
  · obtain ⟨a, cap, rfl, _⟩ := hs.2.shape
    have HZ : Hid (en = z) := by show _ = _; rw [← hz, List.drop_eq_nil_of_le (by omega)]; rfl
    have c0 : w.cell? ⟨p, 0, none⟩ = some (.slice a ts.length cap) := c0
    have q1 : ¬ (k : Int) < (ts.length : Int) := by omega
    have q2 : decide ((k : Int) < (ts.length : Int)) = false := decide_eq_false q1
    clear hb hs hz
    go_enter Tryz.func40, Tryz.ntmps40
    go_wp2_with fail
    go_quiet (fail)
    go_wp2_with fail
    go_ret
    exact ⟨by rw [HZ.out]; rfl, below_drewN _ _ _⟩
/-- Noting an error. -/
def failS : Except (List Tok) (List Tok) → Except (List Tok) (List Tok)
  | .ok r => .error r
  | .error r => .error r
set_option maxRecDepth 100000 in
set_option maxHeartbeats 4000000 in
theorem rfail_c (w : World) (p : Nat) (ts : List Tok) (en : Int) (s : Except (List Tok) (List Tok)) (h : RP w p ts en s) : Calls Tryz.prog 45 #[.pointer (some ⟨p, 0, none⟩)] w fun e w' => e = .returned (.tuple #[]) ∧ RP w' p ts en (failS s) ∧ Fx (fun b => b = p) w w' := by
  cases s with
  | error r =>
    obtain ⟨k, v, hb, hs, hk⟩ := h
    have c3 : w.cell? ⟨p, 3, none⟩ = some (.int .i64 4) := hb.cell 3
    have H : Hid (RP w p ts en (.error r)) := ⟨k, v, hb, hs, hk⟩
    clear hb hs hk
    go_enter Tryz.func45, Tryz.ntmps45
    go_wp2_with fail
    go_end0
    exact ⟨rfl, H.out, Fx.refl _ _⟩
  | ok r =>
    obtain ⟨k, off, ⟨v, hb, hs, hk⟩, hr⟩ := h
    have c3 : w.cell? ⟨p, 3, none⟩ = some (.int .i64 0) := hb.cell 3
    have f3 := hb.frozen 3
    have hlp := hb.lt
    obtain ⟨w1, hw1⟩ : ∃ w1, w1 = w.setCell ⟨p, 3, none⟩ (.int .i64 4) := ⟨_, rfl⟩
    have hf1 : Fx (fun b => b = p) w w1 := hw1 ▸ Fx.set w p 3 _
    have hb1 : Box w1 p #[v, .int .i64 (k : Int), .int .i64 en, .int .i64 4, .int .i64 off] 54 := by rw [hw1]; simpa using hb.set 3 (.int .i64 4)
    have hs1 : SlT (fun b => b < p) w1 v ts := hs.fx hf1 (fun b hb _ e => by omega)
    have H1 := Lib.hid hb1
    have HS1 := Lib.hid hs1
    have HF1 := Lib.hid hf1
    have HK := Lib.hid hk
    have HR := Lib.hid hr
    clear hb hs hk hr hb1 hs1 hf1
    go_enter Tryz.func45, Tryz.ntmps45
    go_upto_region 2 with fail
    rw [← hw1]
    clear hw1 c3 f3
    have hlp1 := H1.out.lt
    go_wp2_with fail
    refine (roffset_c w1 p ts en k 4 off ⟨v, H1.out, HS1.out, HK.out⟩).mono ?_
    rintro e w2 ⟨rfl, hb2⟩
    have H2 := Lib.hid (H1.out.after hb2)
    have HS2 := Lib.hid (HS1.out.fx (S := fun _ => False) (Fx.of_below hb2) (fun _ _ _ e => e))
    have HF2 := Lib.hid (HF1.out.below hb2)
    have c4 : w2.cell? ⟨p, 4, none⟩ = some (.int .i64 off) := H2.out.cell 4
    have f4 := H2.out.frozen 4
    have hlp2 := H2.out.lt
    clear hb2
    obtain ⟨z, hz⟩ : ∃ z, offE en (ts.drop k) = z := ⟨_, rfl⟩
    rw [hz]
    have HZ := Lib.hid hz
    clear hz
    go_wp2_with fail
    go_end0
    refine ⟨rfl, ⟨k, v, ?_, HS2.out.fx (Fx.set _ p 4 _) (fun b hb _ e => by omega), HK.out⟩, HF2.out.trans (Fx.set _ p 4 _)⟩
    rw [HR.out, HZ.out]
    simpa using H2.out.set 4 (.int .i64 z)
end Go.Proofs.YtganlldidjbpiaaGreatDoor
