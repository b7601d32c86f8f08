/- Syntax, the reference: Parse. -/
import Derived.Test.YtganlldidjbpiaaGreatDoorQSyU9
import Derived.Test.YtganlldidjbpiaaGreatDoorQSyS3
import Derived.Test.YtganlldidjbpiaaGreatDoorQLexV4
set_option linter.unusedVariables false
namespace Go.Proofs.YtganlldidjbpiaaGreatDoor
open Go.RowKit Go.Shelf

theorem parse_tokU {s : List UInt8} {u : List Tok} (h : toksF s = (u, 0, 0)) : parseF s = (match allP u with | .error r => ([], offE s.length r, 4) | .ok (cs, _) => (cs, 0, 0)) := by
  unfold parseF
  rw [h]
  show (if (0 : Nat) ≠ 0 then _ else _) = _
  rw [if_neg (by simp)]
  rfl
/-- The clauses that are still to come, and all of them then. -/
def allM (acc : List Cl) (ts : List Tok) : PR (List Cl) := andP (allP ts) fun l r => .ok (acc ++ l, r)
theorem all_round (acc : List Cl) {t : Tok} {r : List Tok} {c : Cl} (hc : ∀ c0, outS topP (.ok (t :: r)) = some c0 → c = c0) :
    goS (allM acc) (.ok (t :: r)) = goS (allM (acc ++ [c])) (goS topP (.ok (t :: r))) ∧ outS (allM acc) (.ok (t :: r)) = outS (allM (acc ++ [c])) (goS topP (.ok (t :: r))) ∧ measS (goS topP (.ok (t :: r))) < measS (.ok (t :: r)) := by
  have e : allP (t :: r) = andP (topP (t :: r)) fun c r => andP (allP r) fun l r => .ok (c :: l, r) := allP_cons t r
  rcases hi : topP (t :: r) with z | ⟨d, r1⟩
  · have e2 : allM acc (t :: r) = .error z := by unfold allM; rw [e, hi]; rfl
    have g1 : goS topP (.ok (t :: r)) = .error z := by unfold goS; simp only [hi]
    refine ⟨?_, ?_, ?_⟩
    · rw [g1]; unfold goS; simp only [e2]
    · rw [g1]; unfold outS; simp only [e2]
    · rw [g1]; unfold measS; simp
  · have g1 : goS topP (.ok (t :: r)) = .ok r1 := by unfold goS; simp only [hi]
    have g2 : outS topP (.ok (t :: r)) = some d := by unfold outS; simp only [hi]
    obtain rfl := hc d g2
    have hl := topP_len hi
    have e2 : allM acc (t :: r) = allM (acc ++ [c]) r1 := by
      unfold allM
      rw [e, hi]
      simp only [andP]
      rcases allP r1 with z | ⟨l, r2⟩
      · rfl
      · simp
    rw [g1]
    refine ⟨?_, ?_, ?_⟩
    · unfold goS; simp only [e2]
    · unfold outS; simp only [e2]
    · unfold measS; simp at hl ⊢; omega
theorem all_err {u z : List Tok} {acc : List Cl} (h : goS (allM []) (.ok u) = goS (allM acc) (.error z)) : allP u = .error z := by
  have h : goS (allM []) (.ok u) = .error z := h
  rcases ha : allP u with e | ⟨l, r⟩
  · have e2 : allM [] u = .error e := by unfold allM; rw [ha]; rfl
    unfold goS at h
    simp only [e2] at h
    injection h with h
    rw [h]
  · have e2 : allM [] u = .ok ([] ++ l, r) := by unfold allM; rw [ha]; rfl
    unfold goS at h
    simp only [e2] at h
    cases h
theorem all_ok {u : List Tok} {acc : List Cl} (h : outS (allM []) (.ok u) = outS (allM acc) (.ok [])) : ∃ r, allP u = .ok (acc, r) := by
  have h1 : outS (allM acc) (.ok []) = some acc := by
    have e2 : allM acc [] = .ok (acc ++ [], []) := rfl
    unfold outS
    simp only [e2, List.append_nil]
  rw [h1] at h
  rcases ha : allP u with e | ⟨l, r⟩
  · have e2 : allM [] u = .error e := by unfold allM; rw [ha]; rfl
    unfold outS at h
    simp only [e2] at h
    cases h
  · have e2 : allM [] u = .ok ([] ++ l, r) := by unfold allM; rw [ha]; rfl
    unfold outS at h
    simp only [e2, List.nil_append] at h
    injection h with h
    exact ⟨r, by rw [h]⟩
set_option maxRecDepth 100000 in
set_option maxHeartbeats 8000000 in
theorem rParse_c (w : World) (s : List UInt8) (hl : s.length ≤ 9223372036854775807) : Calls Tryz.prog 11 #[.string (bs s)] w (RetP w (parseF s)) := by
  have hsz : (bs s).size = s.length := bs_size s
  have hen : In64 (s.length : Int) := ⟨by omega, by omega⟩
  have htl := toks_len s
  obtain ⟨y, hy⟩ : ∃ y, parseF s = y := ⟨_, rfl⟩
  rw [hy]
  have HY := Lib.hid hy
  clear hy
  by_cases h0 : (toksF s).2.2 = 0
  · obtain ⟨u, hu⟩ : ∃ u, toksF s = (u, 0, 0) := ⟨_, (toks_good h0).2.2⟩
    have HU := Lib.hid hu
    rw [hu] at htl
    simp only at htl
    clear h0 hu
    go_enter Tryz.func11, Tryz.ntmps11
    go_wp2_with fail
    refine (rTokens_c w s hl).mono ?_
    rw [HU.out]
    rintro e w1 ⟨v, rfl, hk, hb⟩
    have hk2 := hk.slT
    obtain ⟨a, c, rfl, _, _, _⟩ := hk.shape
    obtain ⟨w2, hw2⟩ : ∃ w2, w2 = w1.alloc (.cells #[.slice a u.length c, .int .i64 0, .int .i64 (s.length : Int), .int .i64 0, .int .i64 0] 54) := ⟨_, rfl⟩
    have hb2 : Below w1.heap.size w1 w2 := hw2 ▸ held_alloc (Below.refl _ w1)
    have bx : Box w2 w1.heap.size #[.slice a u.length c, .int .i64 0, .int .i64 (s.length : Int), .int .i64 0, .int .i64 0] 54 := hw2 ▸ Box.new w1 _ _
    have HP2 : Hid (RP w2 w1.heap.size u (s.length : Int) (.ok u)) := ⟨0, 0, ⟨_, bx, hk2.fx (S := fun _ => False) (Fx.of_below hb2) (fun _ _ _ e => e), Nat.zero_le _⟩, rfl⟩
    have HF2 : Hid (Fx (fun b => w.heap.size ≤ b) w w2) := Fx.of_below (hb.trans (hb2.mono hb.size))
    have hs1 := hb.size
    have hs2 : w2.heap.size = w1.heap.size + 1 := by rw [hw2]; simp
    have hm := RP.meas HP2.out
    clear hb hk hk2 bx hb2
    go_wp2_with fail
    rw [← hw2]
    clear hw2
    go_loopg [9] (measS (.ok u)) (fun gn v9 wx => ∃ s9 acc, gn = measS s9 ∧ acc.length + measS s9 ≤ 100000 ∧ Hid (goS (allM []) (.ok u) = goS (allM acc) s9 ∧ outS (allM []) (.ok u) = outS (allM acc) s9) ∧ Hid (RP wx w1.heap.size u (s.length : Int) s9) ∧ Hid (OwnCl (DR w2.heap.size v9) wx w2.heap.size v9 acc) ∧ Hid (Fx (fun b => w.heap.size ≤ b) w wx) ∧ w2.heap.size ≤ wx.heap.size)
    case atStart => exact ⟨.ok u, [], rfl, by simp; omega, ⟨rfl, rfl⟩, HP2.out, OwnCl.nil _ _ _, HF2.out, Nat.le_refl _⟩
    case round =>
      obtain ⟨s9, acc, rfl, hac, hinv, HP, HO, HF, hsz2⟩ := hrel
      obtain ⟨q0, cap0, rfl, _, _, _⟩ := HO.out.shape
      cases s9 with
      | error z =>
        obtain ⟨k, v, hbp, hsp, hkp⟩ := HP.out
        have c3 : wr.cell? ⟨w1.heap.size, 3, none⟩ = some (.int .i64 4) := hbp.cell 3
        have c4 : wr.cell? ⟨w1.heap.size, 4, none⟩ = some (.int .i64 (offE (s.length : Int) z)) := hbp.cell 4
        have lp := hbp.lt
        have HR : Hid (y = ([], offE s.length z, 4)) := by show _ = _; rw [← HY.out, parse_tokU HU.out, all_err hinv.out.1]
        obtain ⟨o, ho⟩ : ∃ o, offE (s.length : Int) z = o := ⟨_, rfl⟩
        rw [ho] at c4 HR
        clear hbp hsp ho HP HO
        go_wp2_with fail
        go_quiet (fail)
        go_wp2_with fail
        go_quiet (fail)
        go_wp2_with fail
        go_ret3
        rw [HR.out]
        exact ⟨_, rfl, SlC.nil _ _, ((HF.out.toBelow (Nat.le_refl _) (fun b e => e)).trans (below_drewN _ _ _)).trans (below_drewN _ _ _)⟩
      | ok r =>
        obtain ⟨k, off, ⟨v, hbp, hsp, hkp⟩, hrr⟩ := HP.out
        obtain ⟨a9, cap9, rfl, _⟩ := hsp.2.shape
        have c3 : wr.cell? ⟨w1.heap.size, 3, none⟩ = some (.int .i64 0) := hbp.cell 3
        have c0 : wr.cell? ⟨w1.heap.size, 0, none⟩ = some (.slice a9 u.length cap9) := hbp.cell 0
        have c1 : wr.cell? ⟨w1.heap.size, 1, none⟩ = some (.int .i64 (k : Int)) := hbp.cell 1
        have lp := hbp.lt
        rcases r with _ | ⟨t, r⟩
        · have hge : u.length ≤ k := by
            rcases Nat.lt_or_ge k u.length with h | h
            · rw [List.drop_eq_getElem_cons h] at hrr; cases hrr
            · exact h
          have q1 : ¬ (k : Int) < (u.length : Int) := by omega
          have q2 : decide ((k : Int) < (u.length : Int)) = false := decide_eq_false q1
          obtain ⟨r2, hr2⟩ := all_ok hinv.out.2
          have HR : Hid (y = (acc, 0, 0)) := by show _ = _; rw [← HY.out, parse_tokU HU.out, hr2]
          have HIT : Hid (SlC (fun b => w.heap.size ≤ b) wr (.slice q0 acc.length cap0) acc) := HO.out.slC.mono (fun b hb _ => by rcases hb with hb | hb <;> (have := hb.1; omega))
          clear hbp hsp hrr HP HO hr2
          go_wp2_with fail
          go_quiet (fail)
          have hbq : Below wr.heap.size wr (wr.drewN nq) := below_drewN _ _ _
          have c3' := keep_cell hbq c3
          go_wp2_with fail
          go_ret3
          rw [HR.out]
          exact ⟨_, rfl, HIT.out.after (below_drewN _ _ _), (HF.out.toBelow (Nat.le_refl _) (fun b e => e)).trans (below_drewN _ _ _)⟩
        · have hlt : k < u.length := by
            rcases Nat.lt_or_ge k u.length with h | h
            · exact h
            · rw [List.drop_eq_nil_of_le h] at hrr; cases hrr
          have q1 : (k : Int) < (u.length : Int) := by omega
          have q2 : decide ((k : Int) < (u.length : Int)) = true := decide_eq_true q1
          clear hbp hsp hrr
          go_wp2_with fail
          go_quiet (fail)
          obtain ⟨w4, hw4⟩ : ∃ w4, w4 = wr.drewN nq := ⟨_, rfl⟩
          have hb4 : Below wr.heap.size wr w4 := hw4 ▸ below_drewN _ _ _
          have HP4 := Lib.hid (RP.after HP.out hb4)
          have HO4 := Lib.hid (HO.out.fx (S := fun _ => False) (Fx.of_below hb4) (fun _ e => e.elim) (fun _ _ _ e => e))
          have HF4 := Lib.hid (HF.out.below hb4)
          have hsz4 : w2.heap.size ≤ w4.heap.size := Nat.le_trans hsz2 hb4.size
          rw [← hw4]
          clear hw4 hb4 c0 c1 c3 lp q1 q2 HP HO HF
          go_wp2_with fail
          refine (rclause_c w4 _ u _ t r hen (by omega) HP4.out).mono ?_
          rintro e w5 ⟨v5, cz, s5, rfl, ⟨vn, vi, rfl, hcz⟩, ⟨rfl, hir⟩, hp5, hf5⟩
          obtain ⟨h1, h2, h3⟩ := all_round acc hir
          have HIN : Hid (goS (allM []) (.ok u) = goS (allM (acc ++ [cz])) (goS topP (.ok (t :: r))) ∧ outS (allM []) (.ok u) = outS (allM (acc ++ [cz])) (goS topP (.ok (t :: r)))) := ⟨hinv.out.1.trans h1, hinv.out.2.trans h2⟩
          obtain ⟨us, hoc, hol⟩ := HO4.out.fx hf5 (fun b e hb => by have := hb.1; omega) (fun b hb _ e => by have := hb.1; omega)
          obtain ⟨w6, hw6⟩ : ∃ w6, w6 = w5.alloc (.cells (clV cz vn vi).toArray 43) := ⟨_, rfl⟩
          have hs6 : Hid (w6.heap.size = w5.heap.size + 1) := by show _ = _; rw [hw6]; simp
          have hb6 : Below w5.heap.size w5 w6 := hw6 ▸ held_alloc (Below.refl _ _)
          have hbx : Box w6 w5.heap.size (clV cz vn vi).toArray 43 := hw6 ▸ Box.new _ _ _
          have hoc6 := hoc.after hb6
          have hol6 := HasL.fx (S := fun _ => False) (Fx.of_below hb6) (fun _ _ _ e => e) acc hol
          have hcz6 := HasC.fx (S := fun _ => False) (Fx.of_below hb6) (fun _ _ _ e => e) cz hcz
          have HP6 := Lib.hid (RP.after hp5 hb6)
          have HF6 := Lib.hid ((HF4.out.trans (hf5.mono (fun b e => by omega))).below hb6)
          have hsz6 : w4.heap.size ≤ w6.heap.size := Nat.le_trans hf5.size hb6.size
          have hrl : (rowsOf us acc).length ≤ 1000000 := by rw [rowsOf_len hol.len]; omega
          have HOC := Lib.hid hoc6
          have HOL := Lib.hid hol6
          have HCZ := Lib.hid hcz6
          have HBX := Lib.hid hbx
          have HONE := Lib.hid (one_cells hcz6)
          have HLT := Lib.hid hoc.lt
          have hbase : w2.heap.size ≤ w6.heap.size := by omega
          have h45 := hf5.size
          have HOL4 : Hid (∀ b, some b = (Value.slice q0 acc.length cap0).ownBlock → b < w4.heap.size) := (fun b e => (HO4.out.choose_spec.1.lt b e).2)
          clear hir hp5 hf5 hoc hol hb6 hbx hoc6 hol6 hcz6 hcz h1 h2 hinv HP4 HO4 HF4
          unfold clV at hw6
          unfold clV
          go_wp2_with (at_builtin; refine wpList_appC rfl _ _ _ rfl w2.heap.size 43 8 96 _ Tryz.underlying22 infoC rfl (by decide) (by decide) _ (rowsOf us acc) (clV cz vn vi) rfl (by rw [← hw6]; exact HOC.out) rfl HONE.out ⟨w5.heap.size, 0, none⟩ 1 rfl (by rw [← hw6]; exact HBX.out.news) hrl (by rw [← hw6]; exact hbase) ?_)
          rw [← hw6]
          clear hw6
          intro v7 w7 hown7 hf7 hor7
          rw [← hs6.out] at hor7
          rw [← hs2] at hown7
          have hS : ∀ b, some b = (Value.slice q0 acc.length cap0).ownBlock → w2.heap.size ≤ b := fun b e => (HLT.out b e).1
          have HO7 := Lib.hid (OwnCl.app HOL.out HCZ.out (by omega) HOL4.out hown7 hf7 hor7)
          have HP7 := Lib.hid (RP.fx HP6.out hf7 (fun b e => by have := hS b e; omega))
          have HF7 := Lib.hid (HF6.out.trans (hf7.mono (fun b e => by have := hS b e; omega)))
          have hsz7 : w2.heap.size ≤ w7.heap.size := Nat.le_trans hbase hf7.size
          have hll : (acc ++ [cz]).length = acc.length + 1 := by simp
          clear hown7 hf7 hor7 HOC HOL HCZ HBX HONE HLT HP6 HF6
          go_wp2_with fail
          go_roundg (measS (goS topP (.ok (t :: r))))
          case measure => exact h3
          case rel => exact ⟨goS topP (.ok (t :: r)), acc ++ [cz], rfl, by rw [hll]; omega, HIN.out, HP7.out, HO7.out, HF7.out, hsz7⟩
  · obtain ⟨⟨u, o, e⟩, hu⟩ : ∃ R, toksF s = R := ⟨_, rfl⟩
    rw [hu] at h0
    simp only at h0
    have herr := toks_err (l := s) (by rw [hu]; exact h0)
    rw [hu] at herr
    obtain ⟨rfl, _⟩ : u = [] ∧ True := ⟨herr.1, trivial⟩
    have HU := Lib.hid hu
    have HR : Hid (y = ([], o, e)) := by
      show _ = _
      rw [← HY.out]
      unfold parseF
      rw [hu]
      show (if e ≠ 0 then _ else _) = _
      rw [if_pos h0]
    have q0 : (((e : Nat) : Int) != 0) = true := by simp; omega
    clear hu h0 herr htl
    go_enter Tryz.func11, Tryz.ntmps11
    go_wp2_with fail
    refine (rTokens_c w s hl).mono ?_
    rw [HU.out]
    rintro e w1 ⟨v, rfl, hk, hb⟩
    have HB := Lib.hid hb
    obtain ⟨a, c, rfl, _, _, _⟩ := hk.shape
    clear hk hb
    go_wp2_with fail
    go_ret3
    rw [HR.out]
    exact ⟨_, rfl, SlC.nil _ _, HB.out⟩
end Go.Proofs.YtganlldidjbpiaaGreatDoor
