/- Syntax, the reference: texts of what can be printed, Print. -/
import Derived.Test.YtganlldidjbpiaaGreatDoorQSyY6
import Derived.Test.YtganlldidjbpiaaGreatDoorQSyY4
import Derived.Test.YtganlldidjbpiaaGreatDoorK22
set_option linter.unusedVariables false
namespace Go.Proofs.YtganlldidjbpiaaGreatDoor
open Go.RowKit Go.Shelf

theorem textsR_I {c : Cl} (h : formI c) (it : List (List UInt8)) : textsR c it = textsI c := by
  obtain ⟨hk, _, _, _, _, hn, _, _⟩ := h
  have hk' : c.kind = 6 ∨ c.kind = 7 ∨ c.kind = 8 ∨ c.kind = 9 ∨ c.kind = 10 ∨ c.kind = 11 ∨ c.kind = 12 := by omega
  unfold textsR textsI midR
  rcases hk' with e | e | e | e | e | e | e <;> rw [e] <;> rw [e] at hn
  case inr.inr.inr.inr.inl =>
    cases hc : c.names with
    | nil => exact absurd hc (by simpa using hn)
    | cons n l => simp [nameW, kindW]
  all_goals simp [kindW]
theorem textsR_T {c : Cl} (h : formT c) : textsR c (c.items.flatMap textsI) = textsT c := by
  obtain ⟨hk, _⟩ := h
  have hk' : c.kind = 1 ∨ c.kind = 2 ∨ c.kind = 3 ∨ c.kind = 4 ∨ c.kind = 5 := by omega
  unfold textsR textsT midR
  rcases hk' with e | e | e | e | e <;> rw [e] <;> simp [kindW]
theorem okN0 {p : Prop} [Decidable p] {z : Int} (h : if p then okNum z else z = 0) : okNum z := by
  split at h
  · exact h
  · rw [h]; decide
theorem okN0' {p : Prop} [Decidable p] {z : Int} (h : if p then z = 0 else okNum z) : okNum z := by
  split at h
  · rw [h]; decide
  · exact h
theorem rtexts_i (D : Nat → Prop) (w : World) (c : Cl) (vn vi : Value) (h : HasC D w vn vi c) (hf : formI c) (hw : (textsI c).length ≤ 100000) :
    Calls Tryz.prog 27 #[.agg (clV c vn vi).toArray] w (RetW w (textsI c)) := by
  have e : textsR c (c.items.flatMap (fun _ => [])) = textsI c := textsR_I hf _
  have := rtexts_g D w c vn vi (fun _ => []) h (by have := hf.1; omega) (by rw [hf.2.1]; decide) (okN0' hf.2.2.2.1) (by rw [hf.2.2.1]; decide) (by
    have hn := hf.2.2.2.2.2.1
    have hk := hf.1
    rintro (h1 | h1)
    · omega
    · rw [if_neg (by omega), if_pos h1] at hn
      intro h0
      rw [h0] at hn
      cases hn) (by rw [e]; exact hw) (fun hk => absurd hf.1 (by omega))
  rwa [e] at this
theorem rtexts_t (D : Nat → Prop) (w : World) (c : Cl) (vn vi : Value) (h : HasC D w vn vi c) (hf : formT c) (hw : (textsT c).length ≤ 100000) :
    Calls Tryz.prog 27 #[.agg (clV c vn vi).toArray] w (RetW w (textsT c)) := by
  have e : textsR c (c.items.flatMap textsI) = textsT c := textsR_T hf
  have := rtexts_g D w c vn vi textsI h (by have := hf.1; omega) (okN0 hf.2.1) (okN0 hf.2.2.1) (okN0 hf.2.2.2.1) (by
    have hn := hf.2.2.2.2.2.1
    have hk := hf.1
    rintro (h1 | h1)
    · rw [if_pos h1] at hn
      intro h0
      rw [h0] at hn
      cases hn
    · omega) (by rw [e]; exact hw) (fun hk W x hx vn' vi' hc => by
    have hfx := hf.2.2.2.2.2.2.2
    rw [if_pos hk] at hfx
    refine rtexts_i D W x vn' vi' hc (hfx x hx) ?_
    have h1 : (textsT c).length = (c.items.flatMap textsI).length + 4 := by unfold textsT; rw [if_pos hk]; simp
    have h2 : (textsI x).length ≤ (c.items.flatMap textsI).length := by
      obtain ⟨a, b, e⟩ := List.append_of_mem hx
      rw [e]; simp; omega
    omega)
  rwa [e] at this
theorem bs_nil_no {q : List UInt8} (h : 0 < q.length) : (bs q).toList.isEmpty = false := by
  rw [list_bs]
  cases q with
  | nil => cases h
  | cons _ _ => rfl
theorem bs_nil_yes : (bs []).toList.isEmpty = true := by rw [list_bs]; rfl
theorem app_sp (q : List UInt8) : bs q ++ (⟨#[32]⟩ : ByteArray) = bs (q ++ [32]) := append_bs q [32]
set_option maxRecDepth 100000 in
set_option maxHeartbeats 4000000 in
theorem rPrint_c (D : Nat → Prop) (w : World) (v : Value) (l : List Cl) (h : SlC D w v l) (hwl : (l.flatMap textsT).length ≤ 100000) (hwb : ∀ x ∈ l.flatMap textsT, x ≠ [] ∧ x.length ≤ 100000) :
    Calls Tryz.prog 16 #[v] w (RetPr w (printC l)) := by
  obtain ⟨pl, cl, rfl, l1, l2, _⟩ := h.shape
  have HF := Lib.hid (rFormed_c D w _ l h)
  have HS := Lib.hid h
  have HWL := Lib.hid hwl
  have HWB := Lib.hid hwb
  obtain ⟨pr, hpr⟩ : ∃ p, printC l = p := ⟨_, rfl⟩
  rw [hpr]
  have HPR := Lib.hid hpr
  obtain ⟨fb, hfb⟩ : ∃ b, l.all formBT = b := ⟨_, rfl⟩
  rw [hfb] at HF
  have HFB := Lib.hid hfb
  clear h hwl hwb hpr hfb
  go_enter Tryz.func16, Tryz.ntmps16
  go_wp2_with fail
  refine HF.out.mono ?_
  rintro e w1 ⟨rfl, hb1⟩
  have HB1 := Lib.hid hb1
  clear hb1
  cases fb with
  | false =>
    have HP2 : Hid (pr = ([], 1)) := by show _ = _; rw [← HPR.out]; exact printC_no HFB.out
    go_wp2_with fail
    go_ret2
    exact ⟨by rw [HP2.out]; rfl, HB1.out⟩
  | true =>
    have HP2 : Hid (pr = if 4096 < (textC l).length then ([], 3) else (textC l, 0)) := by show _ = _; rw [← HPR.out]; exact printC_yes HFB.out
    have hnl : (l.length : Int) ≤ 9223372036854775807 := by omega
    have HWZ := Lib.hid HB1.out.size
    go_wp2_with fail
    go_loopg [4, 5] l.length (fun gn t ti wx => ∃ (i : Nat) (o : List UInt8), i ≤ l.length ∧ gn = l.length - i ∧ ti = .int .i64 (i : Int) ∧ t = .string (bs o) ∧ Hid (o = joinL [32] ((l.take i).flatMap textsT)) ∧ Hid (Below w.heap.size w wx) ∧ Hid (o.length ≤ 4096 + 200000 * 100000))
    case atStart => exact ⟨0, [], Nat.zero_le _, rfl, rfl, rfl, rfl, HB1.out, by show _ ≤ _; simp⟩
    case round =>
      obtain ⟨i, o, hi, rfl, rfl, rfl, ho, hbl, hol⟩ := hrel
      have hbw := hbl.out
      have HBW := Lib.hid hbw
      have hss : (bs o).size = o.length := bs_size o
      have hol2 : (o.length : Int) ≤ 20000004096 := by have := hol.out; omega
      by_cases hlt : i < l.length
      · by_cases hbig : 4096 < o.length
        · have HP3 : Hid (pr = ([], 3)) := by
            show _ = _
            rw [HP2.out, if_pos]
            obtain ⟨m, e⟩ := take_flat_le textsT l i
            unfold textC
            rw [e]
            have := joinW_mono ((l.take i).flatMap textsT) m
            rw [← ho.out] at this
            omega
          have j1 : (i : Int) < (l.length : Int) := by omega
          have q1 : decide ((o.length : Int) ≤ 4096) = false := decide_eq_false (by omega)
          have q2 : decide ((4096 : Int) < (o.length : Int)) = true := decide_eq_true (by omega)
          have q3 : ¬ ((o.length : Int) ≤ 4096) := by omega
          have q4 : (4096 : Int) < (o.length : Int) := by omega
          clear hbig
          go_wp2_with fail
          go_ret2
          exact ⟨by rw [HP3.out]; rfl, HBW.out⟩
        · have q1 : decide ((o.length : Int) ≤ 4096) = true := decide_eq_true (by omega)
          have q3 : (o.length : Int) ≤ 4096 := by omega
          obtain ⟨ba, oa, ca, ea, _, _, _, la, hca⟩ := (HS.out.after hbw).at_ (by omega)
          injection ea with ea _ ec
          subst ea ec
          obtain ⟨vn', vi', hhc, hcc⟩ := hca i hlt
          have hmem : l.getD i cl0 ∈ l := by rw [List.getD_eq_getElem?_getD, List.getElem?_eq_getElem hlt]; exact List.getElem_mem hlt
          have hst := take_flat textsT l i cl0 hlt
          obtain ⟨x', hx'⟩ : ∃ x, l.getD i cl0 = x := ⟨_, rfl⟩
          rw [hx'] at hhc hcc hmem hst
          obtain ⟨_, hn', hi'⟩ := hasC_iff.1 hhc
          obtain ⟨pn', kn', hpn', n1', n2', _⟩ := hn'.2.shape
          obtain ⟨pi', ki', hpi', i1', i2', _⟩ := hi'.shape
          subst hpn' hpi'
          obtain ⟨d0, d1, d2, d3, d4, d5, d6, d7⟩ := hcc
          have hft : formT x' := (formBT_iff x').1 (List.all_eq_true.1 HFB.out x' hmem)
          obtain ⟨ws, hws⟩ : ∃ ws, textsT x' = ws := ⟨_, rfl⟩
          obtain ⟨L, hL⟩ : ∃ L, (l.take i).flatMap textsT = L := ⟨_, rfl⟩
          have hwlen : ws.length ≤ 100000 := by
            have := HWL.out
            obtain ⟨m, e⟩ := take_flat_le textsT l (i + 1)
            rw [e, hst, hws] at this
            simp at this
            omega
          have HWS : Hid (∀ x ∈ L ++ ws, x ≠ [] ∧ x.length ≤ 100000) := by
            intro x hx
            obtain ⟨m, e⟩ := take_flat_le textsT l (i + 1)
            refine HWB.out x ?_
            rw [e, hst, hws, hL]
            exact List.mem_append.2 (.inl hx)
          have HO : Hid (o = joinL [32] (L ++ ws.take 0)) := by show _ = _; rw [List.take_zero, List.append_nil, ← hL]; exact ho.out
          rw [hws, hL] at hst
          have HST := Lib.hid hst
          have HSM := Lib.hid (Nat.le_of_not_lt hbig)
          have jl : (i : Int) < (l.length : Int) := by omega
          have j0 : (0 : Int) ≤ (i : Int) := by omega
          have HC : Hid (Calls Tryz.prog 27 #[.agg #[.int .u8 (x'.kind : Int), .slice pn' x'.names.length kn', .int .u8 (x'.dom : Int), .int .i64 x'.idx, .int .i64 x'.a, .int .i64 x'.b, .slice pi' x'.items.length ki', .int .i64 x'.off]] wr (RetW wr ws)) := by
            have := rtexts_t D wr x' _ _ hhc hft (by rw [hws]; exact hwlen)
            rw [hws] at this
            exact this
          clear hhc hmem hst hx' hn' hi' hft hws hL hca hbl ho hbig hbw
          go_wp2_with fail
          refine HC.out.mono ?_
          rintro e w6 ⟨v6, rfl, hown6, hb6⟩
          have HB6 : Hid (Below w.heap.size w w6) := HBW.out.trans (hb6.mono HBW.out.size)
          obtain ⟨ZW, hzw⟩ : ∃ z, wr.heap.size = z := ⟨_, rfl⟩
          rw [hzw] at hown6
          have HROW := Lib.hid hown6
          obtain ⟨p6, k6, hp6, k61, k62, _⟩ := hown6.shape
          subst hp6
          clear hown6 hb6 d0 d1 d2 d3 d4 d5 d6 d7 hzw HC HBW q1 q3 hss
          have hwli : (ws.length : Int) ≤ 9223372036854775807 := by omega
          go_wp2_with fail
          go_loopg [4, 7] ws.length (fun gn t tj wy => ∃ (j : Nat) (q : List UInt8), j ≤ ws.length ∧ gn = ws.length - j ∧ tj = .int .i64 (j : Int) ∧ t = .string (bs q) ∧ wy = w6 ∧ Hid (q = joinL [32] (L ++ ws.take j)) ∧ Hid (q.length ≤ 4096 + 200000 * j))
          case atStart => exact ⟨0, o, Nat.zero_le _, rfl, rfl, rfl, rfl, HO.out, by have := HSM.out; show _ ≤ _; omega⟩
          case round =>
            obtain ⟨j, q, hj, rfl, rfl, rfl, hwx, hq, hql⟩ := hrel
            subst hwx
            have hqs : (bs q).size = q.length := bs_size q
            by_cases hjl : j < ws.length
            · obtain ⟨bw, ow, cw, ew, _, _, _, lw, hcw⟩ := HROW.out.slN.2.at_ (by omega)
              injection ew with ew _ ec
              subst ew ec
              have y0 : wr.cell? ⟨bw, ow + j, none⟩ = some (.string (bs (ws.getD j []))) := by have := hcw j hjl 0 (by omega); simpa using this
              have htk : ws.take (j + 1) = ws.take j ++ [ws.getD j []] := by rw [List.take_succ_eq_append_getElem hjl, List.getD_eq_getElem?_getD, List.getElem?_eq_getElem hjl]; rfl
              have hxm : ws.getD j [] ∈ L ++ ws := by rw [List.getD_eq_getElem?_getD, List.getElem?_eq_getElem hjl]; exact List.mem_append.2 (.inr (List.getElem_mem hjl))
              have hall : ∀ x ∈ L ++ ws.take j, x ≠ [] := fun x hx => (HWS.out x (by rcases List.mem_append.1 hx with h | h; exact List.mem_append.2 (.inl h); exact List.mem_append.2 (.inr (List.mem_of_mem_take h)))).1
              obtain ⟨x, hx⟩ : ∃ x, ws.getD j [] = x := ⟨_, rfl⟩
              rw [hx] at y0 htk hxm
              have hxl := (HWS.out x hxm).2
              have hxs : (bs x).size = x.length := bs_size x
              obtain ⟨K, hK⟩ : ∃ K, L ++ ws.take j = K := ⟨_, rfl⟩
              have HK1 : Hid (L ++ ws.take (j + 1) = K ++ [x]) := by show _ = _; rw [htk, ← List.append_assoc, hK]
              rw [hK] at hq hall
              have HQ := Lib.hid hq.out
              have HQL := Lib.hid hql.out
              have HALL := Lib.hid hall
              have hjw : j ≤ 100000 := by omega
              have hql2 := hql.out
              have jl2 : (j : Int) < (ws.length : Int) := by omega
              have j02 : (0 : Int) ≤ (j : Int) := by omega
              clear hcw htk hxm hx hK hq hall hql
              by_cases hkn : K = []
              · have HKN := Lib.hid hkn
                have hq0 : q = [] := by rw [HQ.out, hkn]; rfl
                have q1 := bs_nil_yes
                subst hq0
                obtain ⟨q2, hq2⟩ : ∃ q2, [] ++ x = q2 := ⟨_, rfl⟩
                have e1 : bs [] ++ bs x = bs q2 := (append_bs _ x).trans (congrArg bs hq2)
                have HQ2 := Lib.hid hq2
                clear hkn hq2
                go_wp2_with fail
                go_roundg (ws.length - (j + 1))
                case measure => omega
                case rel =>
                  refine ⟨j + 1, q2, by omega, rfl, by go_num, rfl, rfl, ?_, ?_⟩
                  · show _ = _; rw [HK1.out, HKN.out, ← HQ2.out]; rfl
                  · show _ ≤ _; rw [← HQ2.out, List.length_append]; have := HQL.out; omega
              · have HKN := Lib.hid hkn
                have hq0 : 0 < q.length := by rw [HQ.out]; exact joinW_ne K HALL.out hkn
                have q1 := bs_nil_no hq0
                obtain ⟨q1', hq1⟩ : ∃ q2, q ++ [32] = q2 := ⟨_, rfl⟩
                have e1 : bs q ++ (⟨#[32]⟩ : ByteArray) = bs q1' := (app_sp q).trans (congrArg bs hq1)
                have hsp : (⟨#[32]⟩ : ByteArray).size = 1 := rfl
                obtain ⟨q2, hq2⟩ : ∃ q2, q1' ++ x = q2 := ⟨_, rfl⟩
                have e2 : bs q1' ++ bs x = bs q2 := (append_bs _ x).trans (congrArg bs hq2)
                have hq1s : (bs q1').size = q.length + 1 := by rw [bs_size, ← hq1]; simp
                have HQ2 := Lib.hid hq2
                have HQ1 := Lib.hid hq1
                clear hkn hq2 hq1
                go_wp2_with fail
                go_roundg (ws.length - (j + 1))
                case measure => omega
                case rel =>
                  refine ⟨j + 1, q2, by omega, rfl, by go_num, rfl, rfl, ?_, ?_⟩
                  · show _ = _; rw [HK1.out, joinW_snoc K x HKN.out, ← HQ.out, ← HQ2.out, ← HQ1.out]; simp
                  · show _ ≤ _; rw [← HQ2.out, ← HQ1.out]; simp; have := HQL.out; omega
            · obtain rfl : j = ws.length := by omega
              have HQ : Hid (q = joinL [32] (L ++ ws)) := by have := hq.out; rw [List.take_length] at this; exact this
              have HQL := Lib.hid hql.out
              clear hq hjl hql
              go_wp2_with fail
              go_roundg (l.length - (i + 1))
              case measure => omega
              case rel => exact ⟨i + 1, q, by omega, rfl, by go_num, rfl, by show _ = _; rw [HST.out]; exact HQ.out, HB6.out, by have := HQL.out; show _ ≤ _; omega⟩
      · obtain rfl : i = l.length := by omega
        have HOT : Hid (o = textC l) := by have := ho.out; rw [List.take_length] at this; exact this
        clear hlt ho hbw hbl
        by_cases hbig : 4096 < o.length
        · have HP3 : Hid (pr = ([], 3)) := by show _ = _; rw [HP2.out, ← HOT.out, if_pos hbig]
          have q2 : decide ((4096 : Int) < (o.length : Int)) = true := decide_eq_true (by omega)
          have q4 : (4096 : Int) < (o.length : Int) := by omega
          clear hbig
          go_wp2_with fail
          go_ret2
          exact ⟨by rw [HP3.out]; rfl, HBW.out⟩
        · have HP3 : Hid (pr = (o, 0)) := by show _ = _; rw [HP2.out, ← HOT.out, if_neg hbig]
          have q2 : decide ((4096 : Int) < (o.length : Int)) = false := decide_eq_false (by omega)
          have q4 : ¬ (4096 : Int) < (o.length : Int) := by omega
          clear hbig
          go_wp2_with fail
          go_ret2
          exact ⟨by rw [HP3.out]; rfl, HBW.out⟩
end Go.Proofs.YtganlldidjbpiaaGreatDoor
