/- Syntax, the reference: is, take, number. -/
import Derived.Test.YtganlldidjbpiaaGreatDoorQSyU1
set_option linter.unusedVariables false
namespace Go.Proofs.YtganlldidjbpiaaGreatDoor
open Go.RowKit Go.Shelf

/-- Whether the next token is this text. -/
def isS (x : List UInt8) : Except (List Tok) (List Tok) → Bool
  | .ok (t :: _) => decide (t.text = x)
  | _ => false
set_option maxRecDepth 100000 in
set_option maxHeartbeats 4000000 in
theorem ris_c (w : World) (p : Nat) (ts : List Tok) (en : Int) (s : Except (List Tok) (List Tok)) (x : List UInt8) (h : RP w p ts en s) : Calls Tryz.prog 85 #[.pointer (some ⟨p, 0, none⟩), .string (bs x)] w (RetB w (isS x s)) := by
  cases s with
  | error r =>
    obtain ⟨k, v, hb, hs, hk⟩ := h
    have c3 : w.cell? ⟨p, 3, none⟩ = some (.int .i64 4) := hb.cell 3
    have hlp := hb.lt
    clear hb hs hk
    go_enter Tryz.func85, Tryz.ntmps85
    go_wp2_with fail
    go_quiet (fail)
    go_wp2_with fail
    go_ret
    exact ⟨rfl, below_drewN _ _ _⟩
  | ok r =>
    obtain ⟨k, off, ⟨v, hb, hs, hk⟩, hr⟩ := h
    have c3 : w.cell? ⟨p, 3, none⟩ = some (.int .i64 0) := hb.cell 3
    have c1 : w.cell? ⟨p, 1, none⟩ = some (.int .i64 (k : Int)) := hb.cell 1
    have c0 := hb.cell 0
    have hlp := hb.lt
    by_cases hlt : k < ts.length
    · obtain ⟨b, o, cap, t, rfl, h2, h3, hlb, hd, _, k0, k1, k2, k3⟩ := hs.tok_at hlt
      have c0 : w.cell? ⟨p, 0, none⟩ = some (.slice (some ⟨b, o, none⟩) ts.length cap) := c0
      have HE : Hid (isS x (.ok r) = decide (t.text = x)) := by show _ = _; rw [hr, hd]; rfl
      rw [HE.out]
      have q1 : (k : Int) < (ts.length : Int) := by omega
      have q2 : decide ((k : Int) < (ts.length : Int)) = true := decide_eq_true q1
      have q3 : (0 : Int) ≤ (k : Int) := by omega
      clear hb hs hd hr k0 k2 k3 HE
      obtain ⟨y, hy⟩ : ∃ y, t.text = y := ⟨_, rfl⟩
      rw [hy] at k1 ⊢
      clear hy
      by_cases he : y = x
      · subst he
        have q4 := bs_eq_self y
        rw [decide_eq_true rfl]
        go_enter Tryz.func85, Tryz.ntmps85
        go_wp2_with fail
        go_quiet (fail)
        go_wp2_with fail
        go_ret
        exact ⟨rfl, below_drewN _ _ _⟩
      · have q4 := bs_eq_no he
        rw [decide_eq_false he]
        clear he
        go_enter Tryz.func85, Tryz.ntmps85
        go_wp2_with fail
        go_quiet (fail)
        go_wp2_with fail
        go_ret
        exact ⟨rfl, below_drewN _ _ _⟩
    · obtain ⟨a, cap, rfl, _⟩ := hs.2.shape
      have c0 : w.cell? ⟨p, 0, none⟩ = some (.slice a ts.length cap) := c0
      have HE : Hid (isS x (.ok r) = false) := by show _ = _; rw [hr, List.drop_eq_nil_of_le (by omega)]; rfl
      rw [HE.out]
      have q1 : ¬ (k : Int) < (ts.length : Int) := by omega
      have q2 : decide ((k : Int) < (ts.length : Int)) = false := decide_eq_false q1
      clear hb hs hr HE
      go_enter Tryz.func85, Tryz.ntmps85
      go_wp2_with fail
      go_quiet (fail)
      go_wp2_with fail
      go_ret
      exact ⟨rfl, below_drewN _ _ _⟩
/-- The state behind a reader. -/
def goS {α : Type} (x : List Tok → PR α) : Except (List Tok) (List Tok) → Except (List Tok) (List Tok)
  | .ok r => match x r with
    | .ok (_, r') => .ok r'
    | .error r' => .error r'
  | .error r => .error r
theorem RB.step {w : World} {p k : Nat} {ts : List Tok} {en e off : Int} (h : RB w p ts en k e off) (hk : k < ts.length) : RB (w.setCell ⟨p, 1, none⟩ (.int .i64 ((k : Int) + 1))) p ts en (k + 1) e off := by
  obtain ⟨v, hb, hs, _⟩ := h
  exact ⟨v, by simpa using hb.set 1 (.int .i64 ((k : Int) + 1)), hs.fx (Fx.set _ p 1 _) (fun b hb _ e => by omega), hk⟩
theorem isS_yes {x : List UInt8} {s : Except (List Tok) (List Tok)} (h : isS x s = true) : ∃ t r, s = .ok (t :: r) ∧ t.text = x := by
  match s with
  | .ok (t :: r) => exact ⟨t, r, rfl, of_decide_eq_true h⟩
  | .ok [] => cases h
  | .error r => cases h
theorem goS_want_yes {x : List UInt8} {t : Tok} {r : List Tok} (h : t.text = x) : goS (wantP x) (.ok (t :: r)) = .ok r := by
  have e : wantP x (t :: r) = .ok (t, r) := by unfold wantP; rw [nextP_at, if_pos (by simp [h])]
  unfold goS
  simp only [e]
theorem goS_want_no {x : List UInt8} {s : Except (List Tok) (List Tok)} (h : isS x s = false) : goS (wantP x) s = failS s := by
  match s with
  | .ok (t :: r) =>
    have h : ¬ t.text = x := of_decide_eq_false h
    have e : wantP x (t :: r) = .error (t :: r) := by unfold wantP; rw [nextP_at, if_neg (by simp [h])]
    unfold goS failS
    simp only [e]
  | .ok [] => rfl
  | .error r => rfl
set_option maxRecDepth 100000 in
set_option maxHeartbeats 4000000 in
theorem rtake_c (w : World) (p : Nat) (ts : List Tok) (en : Int) (s : Except (List Tok) (List Tok)) (x : List UInt8) (hts : ts.length ≤ 1000000) (h : RP w p ts en s) : Calls Tryz.prog 44 #[.pointer (some ⟨p, 0, none⟩), .string (bs x)] w fun e w' => e = .returned (.tuple #[]) ∧ RP w' p ts en (goS (wantP x) s) ∧ Fx (fun b => b = p) w w' := by
  have HI := Lib.hid (ris_c w p ts en s x h)
  obtain ⟨yb, hyb⟩ : ∃ b, isS x s = b := ⟨_, rfl⟩
  rw [hyb] at HI
  have H := Lib.hid h
  have HY := Lib.hid hyb
  have HTS := Lib.hid hts
  clear h hyb hts
  cases yb with
  | false =>
    rw [goS_want_no HY.out]
    go_enter Tryz.func44, Tryz.ntmps44
    go_wp2_with fail
    refine HI.out.mono ?_
    rintro e w1 ⟨rfl, hb1⟩
    have HB1 := Lib.hid hb1
    clear hb1
    go_wp2_with fail
    refine (rfail_c w1 p ts en s (H.out.after HB1.out)).mono ?_
    rintro e w2 ⟨rfl, hp2, hf2⟩
    have HP2 := Lib.hid hp2
    have HF2 := Lib.hid hf2
    clear hp2 hf2
    go_wp2_with fail
    refine bodyPost_ret (v := .tuple #[]) (results_none rfl _ _ _) rfl ?_
    exact ⟨rfl, HP2.out, (Fx.of_below HB1.out).trans HF2.out⟩
  | true =>
    obtain ⟨t, r, rfl, ht⟩ := isS_yes HY.out
    rw [goS_want_yes ht]
    go_enter Tryz.func44, Tryz.ntmps44
    go_wp2_with fail
    refine HI.out.mono ?_
    rintro e w1 ⟨rfl, hb1⟩
    obtain ⟨k, off, hrb, hr⟩ := H.out.after hb1
    have HRB := Lib.hid hrb
    have hkl : k < ts.length := by
      rcases Nat.lt_or_ge k ts.length with h | h
      · exact h
      · rw [List.drop_eq_nil_of_le h] at hr; cases hr
    have HR2 : Hid (r = ts.drop (k + 1)) := by
      show _ = _
      have e := List.drop_eq_getElem_cons hkl
      rw [← hr] at e
      injection e
    obtain ⟨v, hbx, _, _⟩ := hrb
    have c1 : w1.cell? ⟨p, 1, none⟩ = some (.int .i64 (k : Int)) := hbx.cell 1
    have f1 := hbx.frozen 1
    have hlp := hbx.lt
    have hkb : k ≤ 1000000 := by have := HTS.out; omega
    have HF1 := Lib.hid (Fx.of_below (S := fun b => b = p) hb1)
    clear hbx hb1 hr ht
    go_wp2_with fail
    go_end0
    exact ⟨rfl, ⟨k + 1, off, HRB.out.step hkl, HR2.out⟩, HF1.out.trans (Fx.set _ p 1 _)⟩
end Go.Proofs.YtganlldidjbpiaaGreatDoor
