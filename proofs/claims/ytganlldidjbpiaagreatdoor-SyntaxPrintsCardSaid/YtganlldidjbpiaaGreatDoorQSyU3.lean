/- Syntax, the reference: number. -/
import Derived.Test.YtganlldidjbpiaaGreatDoorQSyU2
set_option linter.unusedVariables false
namespace Go.Proofs.YtganlldidjbpiaaGreatDoor
open Go.RowKit Go.Shelf

/-- What a reader yields. -/
def outS {α : Type} (x : List Tok → PR α) : Except (List Tok) (List Tok) → Option α
  | .ok r => match x r with
    | .ok (a, _) => some a
    | .error _ => none
  | .error _ => none
theorem out_err {α : Type} (x : List Tok → PR α) (r : List Tok) : outS x (.error r) = none ∧ goS x (.error r) = .error r := ⟨rfl, rfl⟩
theorem out_yes {α : Type} {x : List Tok → PR α} {r r' : List Tok} {a : α} (h : x r = .ok (a, r')) : outS x (.ok r) = some a ∧ goS x (.ok r) = .ok r' := by
  unfold outS goS
  simp only [h, and_self]
theorem out_no {α : Type} {x : List Tok → PR α} {r r' : List Tok} (h : x r = .error r') : outS x (.ok r) = none ∧ goS x (.ok r) = .error r' := by
  unfold outS goS
  simp only [h, and_self]
theorem num_yes {t : Tok} {r : List Tok} (h : t.kind = 2) : numP (t :: r) = .ok (t.num, r) := by
  unfold numP
  rw [nextP_at, if_pos (by unfold numberedT; rw [h]; rfl)]
  rfl
theorem num_no {t : Tok} {r : List Tok} (h : ¬ t.kind = 2) : numP (t :: r) = .error (t :: r) := by
  unfold numP
  rw [nextP_at, if_neg (by unfold numberedT; simpa using h)]
  rfl
theorem num_nil : numP [] = .error [] := rfl
/-- How a call that reads ends. -/
def RR {α : Type} (p : Nat) (ts : List Tok) (en : Int) (w : World) (x : List Tok → PR α) (V : α → Value) (d : α) (s : Except (List Tok) (List Tok)) (e : Ending) (w' : World) : Prop := e = .returned (V ((outS x s).getD d)) ∧ RP w' p ts en (goS x s) ∧ Fx (fun b => b = p) w w'
set_option maxRecDepth 100000 in
set_option maxHeartbeats 4000000 in
theorem rnumber_c (w : World) (p : Nat) (ts : List Tok) (en : Int) (s : Except (List Tok) (List Tok)) (hts : ts.length ≤ 1000000) (h : RP w p ts en s) : Calls Tryz.prog 43 #[.pointer (some ⟨p, 0, none⟩)] w (RR p ts en w numP (fun z => .int .i64 z) 0 s) := by
  unfold RR
  cases s with
  | error r =>
    obtain ⟨k, v, hb, hs, hk⟩ := h
    have c3 : w.cell? ⟨p, 3, none⟩ = some (.int .i64 4) := hb.cell 3
    have H : Hid (RP w p ts en (.error r)) := ⟨k, v, hb, hs, hk⟩
    have hlp := hb.lt
    rw [(out_err numP r).1, (out_err numP r).2]
    clear hb hs hk
    go_enter Tryz.func43, Tryz.ntmps43
    go_wp2_with fail
    go_quiet (fail)
    go_wp2_with fail
    refine (rfail_c _ p ts en _ (H.out.after (below_drewN _ _ _))).mono ?_
    rintro e w2 ⟨rfl, hp2, hf2⟩
    have HP2 := Lib.hid hp2
    have HF2 := Lib.hid ((Fx.of_below (S := fun b => b = p) (below_drewN _ _ _)).trans hf2)
    clear hp2 hf2
    go_wp2_with fail
    go_ret
    exact ⟨rfl, HP2.out, HF2.out⟩
  | ok r =>
    have H := Lib.hid h
    obtain ⟨k, off, ⟨v, hb, hs, hk⟩, hr⟩ := h
    have c3 : w.cell? ⟨p, 3, none⟩ = some (.int .i64 0) := hb.cell 3
    have c1 : w.cell? ⟨p, 1, none⟩ = some (.int .i64 (k : Int)) := hb.cell 1
    have c0 := hb.cell 0
    have hlp := hb.lt
    by_cases hlt : k < ts.length
    · obtain ⟨b, o, cap, t, rfl, h2, h3, hlb, hd, hok, k0, k1, k2, k3⟩ := hs.tok_at hlt
      have c0 : w.cell? ⟨p, 0, none⟩ = some (.slice (some ⟨b, o, none⟩) ts.length cap) := c0
      have q1 : (k : Int) < (ts.length : Int) := by omega
      have q2 : decide ((ts.length : Int) ≤ (k : Int)) = false := decide_eq_false (by omega)
      have q2' : ¬ (ts.length : Int) ≤ (k : Int) := by omega
      have q3 : (0 : Int) ≤ (k : Int) := by omega
      have hkb : k ≤ 1000000 := by omega
      rw [hd] at hr
      by_cases he : t.kind = 2
      · have q4 : ((t.kind : Int) != 2) = false := by simp; omega
        have hn := num_yes (r := ts.drop (k + 1)) he
        rw [hr, (out_yes hn).1, (out_yes hn).2]
        have BP := Lib.hid hb
        have hpb : b < p := by
          obtain ⟨b', o', c', e', _, _, hlt', _⟩ := hs.2.at_ (by omega)
          injection e' with e' _ _
          injection e' with e'
          injection e' with e1 e2 e3
          omega
        have HST : Hid (∀ n, RB ((w.drewN n).setCell ⟨p, 1, none⟩ (.int .i64 ((k : Int) + 1))) p ts en (k + 1) 0 off) := fun n => RB.step (RB.after ⟨_, hb, hs, hk⟩ (below_drewN _ _ _)) hlt
        have f1 := hb.frozen 1
        obtain ⟨z, hz⟩ : ∃ z, t.num = z := ⟨_, rfl⟩
        rw [hz] at k2 ⊢
        clear hb hs hd hr k1 k3 hz H hok
        go_enter Tryz.func43, Tryz.ntmps43
        go_wp2_with fail
        go_quiet (fail)
        go_wp2_with fail
        go_quiet (fail)
        go_wp2_with fail
        go_ret
        exact ⟨rfl, ⟨k + 1, off, (HST.out _).after (below_drewN _ _ _), rfl⟩, ((Fx.of_below (below_drewN _ _ _)).trans (Fx.set _ p 1 _)).below (below_drewN _ _ _)⟩
      · have q4 : ((t.kind : Int) != 2) = true := by simp; omega
        have hn := num_no (r := ts.drop (k + 1)) he
        rw [hr, (out_no hn).1, (out_no hn).2]
        rw [hr] at H
        clear hb hs hd hr k1 k2 k3 he hok
        go_enter Tryz.func43, Tryz.ntmps43
        go_wp2_with fail
        go_quiet (fail)
        go_wp2_with fail
        refine (rfail_c _ p ts en _ (H.out.after (below_drewN _ _ _))).mono ?_
        rintro e w2 ⟨rfl, hp2, hf2⟩
        have HP2 := Lib.hid hp2
        have HF2 := Lib.hid ((Fx.of_below (S := fun b => b = p) (below_drewN _ _ _)).trans hf2)
        clear hp2 hf2
        go_wp2_with fail
        go_ret
        exact ⟨rfl, HP2.out, HF2.out⟩
    · obtain ⟨a, cap, rfl, _⟩ := hs.2.shape
      have c0 : w.cell? ⟨p, 0, none⟩ = some (.slice a ts.length cap) := c0
      have q2 : decide ((ts.length : Int) ≤ (k : Int)) = true := decide_eq_true (by omega)
      have q1 : (ts.length : Int) ≤ (k : Int) := by omega
      rw [List.drop_eq_nil_of_le (by omega)] at hr
      rw [hr, (out_no num_nil).1, (out_no num_nil).2]
      rw [hr] at H
      clear hb hs hr
      go_enter Tryz.func43, Tryz.ntmps43
      go_wp2_with fail
      go_quiet (fail)
      go_wp2_with fail
      refine (rfail_c _ p ts en _ (H.out.after (below_drewN _ _ _))).mono ?_
      rintro e w2 ⟨rfl, hp2, hf2⟩
      have HP2 := Lib.hid hp2
      have HF2 := Lib.hid ((Fx.of_below (S := fun b => b = p) (below_drewN _ _ _)).trans hf2)
      clear hp2 hf2
      go_wp2_with fail
      go_ret
      exact ⟨rfl, HP2.out, HF2.out⟩
end Go.Proofs.YtganlldidjbpiaaGreatDoor
