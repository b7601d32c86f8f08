/- Walks of the statements about layer 2: SyntaxJoins. -/
import Derived.Test.YtganlldidjbpiaaGreatDoorK25
import Derived.Test.YtganlldidjbpiaaGreatDoorQSyS3
import Derived.Test.YtganlldidjbpiaaGreatDoorK06
import Derived.Test.YtganlldidjbpiaaGreatDoorQLexV4
set_option linter.unusedVariables false
namespace Go.Proofs.YtganlldidjbpiaaGreatDoor
open Go.RowKit Go.Shelf

theorem HasL.split {D : Nat → Prop} {w : World} : ∀ {l m : List Cl} {us : List (Value × Value)}, HasL D w us (l ++ m) → HasL D w (us.take l.length) l ∧ HasL D w (us.drop l.length) m
  | [], m, us, h => ⟨by rw [List.length_nil, List.take_zero, HasL]; trivial, h⟩
  | c :: l, m, [], h => by rw [List.cons_append, HasL] at h; exact h.elim; all_goals simp
  | c :: l, m, u :: us, h => by
    rw [List.cons_append, HasL] at h
    have := HasL.split h.2
    rw [List.length_cons, List.take_succ_cons, List.drop_succ_cons, HasL]
    exact ⟨⟨h.1, this.1⟩, this.2⟩
theorem clF_front (us : List (Value × Value)) (l m : List Cl) {i : Nat} (hi : i < l.length) (j : Nat) : clF us (l ++ m) i j = clF (us.take l.length) l i j := by
  unfold clF
  rw [List.getD_eq_getElem?_getD (l := l ++ m), List.getElem?_append_left hi, ← List.getD_eq_getElem?_getD, List.getD_eq_getElem?_getD (l := us.take _), List.getElem?_take, if_pos hi, ← List.getD_eq_getElem?_getD]
theorem clF_back (us : List (Value × Value)) (l m : List Cl) (i j : Nat) : clF us (l ++ m) (l.length + i) j = clF (us.drop l.length) m i j := by
  unfold clF
  rw [List.getD_eq_getElem?_getD (l := l ++ m), List.getElem?_append_right (by omega), show l.length + i - l.length = i by omega, ← List.getD_eq_getElem?_getD, List.getD_eq_getElem?_getD (l := us.drop _), List.getElem?_drop, ← List.getD_eq_getElem?_getD]
theorem SlC.front {D : Nat → Prop} {w : World} {a : Option Addr} {n cap : Nat} {l m : List Cl} (h : SlC D w (.slice a n cap) (l ++ m)) : SlC D w (.slice a l.length cap) l := by
  obtain ⟨us, ⟨a', cap', e, h1, h2, h3, h4⟩, hh⟩ := h
  injection e with e1 e2 e3
  subst e1 e3
  rw [List.length_append] at h1 h4
  refine ⟨us.take l.length, ⟨a, cap, rfl, by omega, h2, h3, fun h0 => ?_⟩, (HasL.split hh).1⟩
  obtain ⟨b, off, ea, hD, hb, hc⟩ := h4 (by omega)
  exact ⟨b, off, ea, hD, hb, fun i hi j hj => by rw [hc i (by omega) j hj, clF_front us l m hi]⟩
theorem SlC.back {D : Nat → Prop} {w : World} {a q : Option Addr} {n cap : Nat} {l m : List Cl} (h : SlC D w (.slice a n cap) (l ++ m)) (hq : ∀ b off, a = some ⟨b, off, none⟩ → 0 < m.length → q = some ⟨b, off + l.length * 8, none⟩) (hn : q = none → cap - l.length = 0) : SlC D w (.slice q m.length (cap - l.length)) m := by
  obtain ⟨us, ⟨a', cap', e, h1, h2, h3, h4⟩, hh⟩ := h
  injection e with e1 e2 e3
  subst e1 e3
  rw [List.length_append] at h1 h4
  refine ⟨us.drop l.length, ⟨q, cap - l.length, rfl, by omega, by omega, hn, fun h0 => ?_⟩, (HasL.split hh).2⟩
  obtain ⟨b, off, ea, hD, hb, hc⟩ := h4 (by omega)
  refine ⟨b, off + l.length * 8, hq b off ea h0, hD, hb, fun i hi j hj => ?_⟩
  have := hc (l.length + i) (by omega) j hj
  rw [clF_back] at this
  rw [← this]
  congr 3
  rw [Nat.add_mul]
  omega
theorem SlC.back2 {D : Nat → Prop} {w : World} {a : Option Addr} {n cap k : Nat} {l m : List Cl} (h : SlC D w (.slice a n cap) (l ++ m)) (hk : k = m.length) (hc : ¬ cap = l.length) : SlC D w (.slice (Option.map (fun x => x.add (l.length * 8)) a) k (cap - l.length)) m := by
  rw [hk]
  refine SlC.back h (fun b off e _ => ?_) (fun e => ?_)
  · rw [e, Option.map_some]
    unfold Addr.add
    by_cases hz : l.length * 8 = 0
    · rw [if_pos hz, hz]
      rfl
    · rw [if_neg hz]
  · obtain ⟨us, ⟨a', cap', e1, h1, h2, h3, h4⟩, hh⟩ := h
    injection e1 with e1 e2 e3
    subst e1 e3
    cases a with
    | none => rw [h3 rfl]; omega
    | some x => cases e
theorem SlC.back0 {D : Nat → Prop} {w : World} {a : Option Addr} {n cap k : Nat} {l m : List Cl} (h : SlC D w (.slice a n cap) (l ++ m)) (hk : k = m.length) (hc : cap = l.length) : SlC D w (.slice a k 0) m := by
  obtain ⟨us, ⟨a', cap', e1, h1, h2, h3, h4⟩, hh⟩ := h
  injection e1 with e1 e2 e3
  subst e1 e3
  rw [List.length_append] at h1
  obtain rfl : m = [] := List.length_eq_zero_iff.1 (by omega)
  subst hk
  exact ⟨[], ⟨a, 0, rfl, Nat.le_refl _, by omega, fun _ => rfl, fun h => by cases h⟩, by rw [HasL]; trivial⟩
theorem shL_at (k : Int) (l m : List Cl) {i : Nat} (hi : i < m.length) : ((l ++ shL k m).getD (l.length + i) cl0).off = (m.getD i cl0).off + k := by
  rw [List.getD_eq_getElem?_getD, List.getElem?_append_right (by omega), show l.length + i - l.length = i by omega]
  have h := shL_off k m
  have h1 : ((shL k m).map Cl.off)[i]? = (m.map fun c => c.off + k)[i]? := by rw [h]
  rw [List.getElem?_map, List.getElem?_map, List.getElem?_eq_getElem hi, List.getElem?_eq_getElem (by rw [shL_len]; exact hi)] at h1
  simp only [Option.map_some, Option.some.injEq] at h1
  rw [List.getElem?_eq_getElem (by rw [shL_len]; exact hi), List.getD_eq_getElem?_getD, List.getElem?_eq_getElem hi]
  exact h1

set_option maxRecDepth 100000 in
set_option maxHeartbeats 4000000 in
theorem joins_long (N : Nat) (w : World) (a b : List UInt8) (hl : a.length ≤ 9223372036854775807) (hl2 : b.length ≤ 9223372036854775807) (h : 2000 < a.length ∨ 2000 < b.length) (hN : N ≤ w.heap.size) (he : Wds N w) (ht : Tab10 w) : Calls Tryz.prog 8 #[.string (bs a), .string (bs b)] w (RetB w true) := by
  have hsa : (bs a).size = a.length := bs_size a
  have hsb : (bs b).size = b.length := bs_size b
  have HE := Lib.hid he
  have HT := Lib.hid ht
  clear he ht
  by_cases h1 : 2000 < a.length
  · have h2 : decide (2000 < (a.length : Int)) = true := decide_eq_true (by omega)
    clear h h1
    go_enter Tryz.func8, Tryz.ntmps8
    go_wp2_with fail
    refine (sawake_c N _ hN HE.out HT.out).mono ?_
    rintro e w1 ⟨rfl, hb⟩
    have HB1 := Lib.hid (hb)
    clear hb
    go_wp2_with fail
    go_ret
    exact ⟨rfl, HB1.out⟩
  · have h2 : decide (2000 < (a.length : Int)) = false := decide_eq_false (by omega)
    have h3 : decide (2000 < (b.length : Int)) = true := decide_eq_true (by omega)
    clear h h1
    go_enter Tryz.func8, Tryz.ntmps8
    go_wp2_with fail
    refine (sawake_c N _ hN HE.out HT.out).mono ?_
    rintro e w1 ⟨rfl, hb⟩
    have HB1 := Lib.hid (hb)
    clear hb
    go_wp2_with fail
    go_ret
    exact ⟨rfl, HB1.out⟩
set_option maxRecDepth 100000 in
set_option maxHeartbeats 4000000 in
theorem joins_e1 (N : Nat) (w : World) (a b : List UInt8) (hl : a.length ≤ 2000) (hl2 : b.length ≤ 2000) (h : (parseF a).2.2 ≠ 0) (hN : N ≤ w.heap.size) (he : Wds N w) (ht : Tab10 w) : Calls Tryz.prog 8 #[.string (bs a), .string (bs b)] w (RetB w true) := by
  have hsa : (bs a).size = a.length := bs_size a
  have hsb : (bs b).size = b.length := bs_size b
  have hnl : ¬ 4096 < (a ++ 10 :: b).length := by have := apart_len hl hl2; omega
  have HE := Lib.hid he
  have HT := Lib.hid ht
  clear he ht
  obtain ⟨⟨l, fr, e⟩, hA⟩ : ∃ R, parseF a = R := ⟨_, rfl⟩
  obtain ⟨⟨m, ub, f⟩, hP⟩ : ∃ R, parseF b = R := ⟨_, rfl⟩
  obtain ⟨⟨ts, lo, lx⟩, hK⟩ : ∃ R, toksF b = R := ⟨_, rfl⟩
  have HA := Lib.hid hA
  have HP := Lib.hid hP
  have HK := Lib.hid hK
  rw [hA] at h
  simp only at h
  have hj := joins_err hnl h hA
  obtain ⟨⟨n, at_, g⟩, hC⟩ : ∃ R, parseF (a ++ 10 :: b) = R := ⟨_, rfl⟩
  rw [hC] at hj
  simp only at hj
  obtain ⟨c1, hc1⟩ : ∃ r, a ++ [10] = r := ⟨_, rfl⟩
  obtain ⟨c2, hc2⟩ : ∃ r, c1 ++ b = r := ⟨_, rfl⟩
  have hcat : a ++ 10 :: b = c2 := by rw [← hc2, ← hc1]; simp
  rw [hcat] at hC
  have HC := Lib.hid hC
  have e1 : bs a ++ (⟨#[10]⟩ : ByteArray) = bs c1 := (append_bs a [10]).trans (congrArg bs hc1)
  have e2 : bs c1 ++ bs b = bs c2 := (append_bs c1 b).trans (congrArg bs hc2)
  have z1 : (bs c1).size = c1.length := bs_size c1
  have hl0 : a.length ≤ 9223372036854775807 := by omega
  have hl1 : b.length ≤ 9223372036854775807 := by omega
  have l1 : c1.length ≤ 2001 := by rw [← hc1]; simp; omega
  have l2 : c2.length ≤ 4001 := by rw [← hc2]; simp; omega
  have hl3 : c2.length ≤ 9223372036854775807 := by omega
  clear hc1 hc2 hcat hC hnl
  have q0 : ((e : Int) != 0) = true := by simp; omega
  by_cases hor : (a.length : Int) ≤ fr
  · have q1 : decide ((a.length : Int) ≤ fr) = true := decide_eq_true hor
    have q1b : (a.length : Int) ≤ fr := hor
    clear hor hj hA hP hK h
    go_enter Tryz.func8, Tryz.ntmps8
    go_wp2_with fail
    refine (Parse_c N _ a hl0 hN HE.out).mono ?_
    rw [HA.out]
    rintro e w1 ⟨va, rfl, hv, hb⟩
    have HB1 := Lib.hid (hb)
    have hN1 : N ≤ w1.heap.size := Nat.le_trans hN hb.size
    have HE1 := Lib.hid (HE.out.after hb)
    have HT1 := Lib.hid (HT.out.after hb)
    have VA := Lib.hid hv
    obtain ⟨sa1, sc1, rfl, k1, kk1, _⟩ := hv.shape
    clear hv hb
    go_wp2_with fail
    refine (Parse_c N _ b hl1 hN1 HE1.out).mono ?_
    rw [HP.out]
    rintro e w2 ⟨vb, rfl, hv, hb⟩
    have HB2 := Lib.hid (HB1.out.trans (hb.mono HB1.out.size))
    have hN2 : N ≤ w2.heap.size := Nat.le_trans hN1 hb.size
    have HE2 := Lib.hid (HE1.out.after hb)
    have HT2 := Lib.hid (HT1.out.after hb)
    replace VA := Lib.hid (VA.out.after hb)
    have VB := Lib.hid hv
    obtain ⟨sa2, sc2, rfl, k2, kk2, _⟩ := hv.shape
    clear hv hb
    go_wp2_with fail
    refine (rTokens_c _ b hl1).mono ?_
    rw [HK.out]
    rintro e w3 ⟨vt, rfl, hv, hb⟩
    have HB3 := Lib.hid (HB2.out.trans (hb.mono HB2.out.size))
    have hN3 : N ≤ w3.heap.size := Nat.le_trans hN2 hb.size
    have HE3 := Lib.hid (HE2.out.after hb)
    have HT3 := Lib.hid (HT2.out.after hb)
    replace VA := Lib.hid (VA.out.after hb)
    replace VB := Lib.hid (VB.out.after hb)
    have VT := Lib.hid hv
    obtain ⟨sa3, sc3, rfl, k3, kk3, _⟩ := hv.shape
    clear hv hb
    go_wp2_with fail
    refine (Parse_c N _ c2 hl3 hN3 HE3.out).mono ?_
    rw [HC.out]
    rintro e w4 ⟨vc, rfl, hv, hb⟩
    have HB4 := Lib.hid (HB3.out.trans (hb.mono HB3.out.size))
    have hN4 : N ≤ w4.heap.size := Nat.le_trans hN3 hb.size
    have HE4 := Lib.hid (HE3.out.after hb)
    have HT4 := Lib.hid (HT3.out.after hb)
    replace VA := Lib.hid (VA.out.after hb)
    replace VB := Lib.hid (VB.out.after hb)
    replace VT := Lib.hid (VT.out.after hb)
    have VC := Lib.hid hv
    obtain ⟨sa4, sc4, rfl, k4, kk4, _⟩ := hv.shape
    clear hv hb
    go_wp2_with fail
    refine (sawake_c N _ hN4 HE4.out HT4.out).mono ?_
    rintro e w5 ⟨rfl, hb⟩
    have HB5 := Lib.hid (HB4.out.trans (hb.mono HB4.out.size))
    clear hb
    go_wp2_with fail
    go_ret
    exact ⟨rfl, HB5.out⟩
  · have h0 : g ≠ 0 ∧ n = [] := hj.resolve_left hor
    obtain ⟨h0, rfl⟩ := h0
    have q1 : decide ((a.length : Int) ≤ fr) = false := decide_eq_false hor
    have q1b : ¬ (a.length : Int) ≤ fr := hor
    have q2 : ((g : Int) != 0) = true := by simp; omega
    clear hor hj hA hP hK h h0
    go_enter Tryz.func8, Tryz.ntmps8
    go_wp2_with fail
    refine (Parse_c N _ a hl0 hN HE.out).mono ?_
    rw [HA.out]
    rintro e w1 ⟨va, rfl, hv, hb⟩
    have HB1 := Lib.hid (hb)
    have hN1 : N ≤ w1.heap.size := Nat.le_trans hN hb.size
    have HE1 := Lib.hid (HE.out.after hb)
    have HT1 := Lib.hid (HT.out.after hb)
    have VA := Lib.hid hv
    obtain ⟨sa1, sc1, rfl, k1, kk1, _⟩ := hv.shape
    clear hv hb
    go_wp2_with fail
    refine (Parse_c N _ b hl1 hN1 HE1.out).mono ?_
    rw [HP.out]
    rintro e w2 ⟨vb, rfl, hv, hb⟩
    have HB2 := Lib.hid (HB1.out.trans (hb.mono HB1.out.size))
    have hN2 : N ≤ w2.heap.size := Nat.le_trans hN1 hb.size
    have HE2 := Lib.hid (HE1.out.after hb)
    have HT2 := Lib.hid (HT1.out.after hb)
    replace VA := Lib.hid (VA.out.after hb)
    have VB := Lib.hid hv
    obtain ⟨sa2, sc2, rfl, k2, kk2, _⟩ := hv.shape
    clear hv hb
    go_wp2_with fail
    refine (rTokens_c _ b hl1).mono ?_
    rw [HK.out]
    rintro e w3 ⟨vt, rfl, hv, hb⟩
    have HB3 := Lib.hid (HB2.out.trans (hb.mono HB2.out.size))
    have hN3 : N ≤ w3.heap.size := Nat.le_trans hN2 hb.size
    have HE3 := Lib.hid (HE2.out.after hb)
    have HT3 := Lib.hid (HT2.out.after hb)
    replace VA := Lib.hid (VA.out.after hb)
    replace VB := Lib.hid (VB.out.after hb)
    have VT := Lib.hid hv
    obtain ⟨sa3, sc3, rfl, k3, kk3, _⟩ := hv.shape
    clear hv hb
    go_wp2_with fail
    refine (Parse_c N _ c2 hl3 hN3 HE3.out).mono ?_
    rw [HC.out]
    rintro e w4 ⟨vc, rfl, hv, hb⟩
    have HB4 := Lib.hid (HB3.out.trans (hb.mono HB3.out.size))
    have hN4 : N ≤ w4.heap.size := Nat.le_trans hN3 hb.size
    have HE4 := Lib.hid (HE3.out.after hb)
    have HT4 := Lib.hid (HT3.out.after hb)
    replace VA := Lib.hid (VA.out.after hb)
    replace VB := Lib.hid (VB.out.after hb)
    replace VT := Lib.hid (VT.out.after hb)
    have VC := Lib.hid hv
    obtain ⟨sa4, sc4, rfl, k4, kk4, _⟩ := hv.shape
    clear hv hb
    go_wp2_with fail
    refine (sawake_c N _ hN4 HE4.out HT4.out).mono ?_
    rintro e w5 ⟨rfl, hb⟩
    have HB5 := Lib.hid (HB4.out.trans (hb.mono HB4.out.size))
    clear hb
    go_wp2_with fail
    go_ret
    exact ⟨rfl, HB5.out⟩
set_option maxRecDepth 100000 in
set_option maxHeartbeats 4000000 in
theorem joins_e2 (N : Nat) (w : World) (a b : List UInt8) (hl : a.length ≤ 2000) (hl2 : b.length ≤ 2000) (h : (parseF a).2.2 = 0) (hf : (parseF b).2.2 ≠ 0) (hN : N ≤ w.heap.size) (he : Wds N w) (ht : Tab10 w) : Calls Tryz.prog 8 #[.string (bs a), .string (bs b)] w (RetB w true) := by
  have hsa : (bs a).size = a.length := bs_size a
  have hsb : (bs b).size = b.length := bs_size b
  have hnl : ¬ 4096 < (a ++ 10 :: b).length := by have := apart_len hl hl2; omega
  have HE := Lib.hid he
  have HT := Lib.hid ht
  clear he ht
  obtain ⟨⟨l, fr, e⟩, hA⟩ : ∃ R, parseF a = R := ⟨_, rfl⟩
  obtain ⟨⟨m, ub, f⟩, hP⟩ : ∃ R, parseF b = R := ⟨_, rfl⟩
  obtain ⟨⟨ts, lo, lx⟩, hK⟩ : ∃ R, toksF b = R := ⟨_, rfl⟩
  have HA := Lib.hid hA
  have HP := Lib.hid hP
  have HK := Lib.hid hK
  rw [hA] at h
  simp only at h
  subst h
  rw [hP] at hf
  simp only at hf
  have hC := (joins_ok hnl hA).1 m ub f hf hP
  obtain ⟨_, t1, t2⟩ := parse_bounds hP hf
  obtain ⟨at_, hat⟩ : ∃ z, ub + ((a.length + 1 : Nat) : Int) = z := ⟨_, rfl⟩
  rw [hat] at hC
  have q4 : (at_ == (a.length : Int) + 1 + ub) = true := by simp; omega
  have t3 : ub ≤ 4096 := by omega
  obtain ⟨c1, hc1⟩ : ∃ r, a ++ [10] = r := ⟨_, rfl⟩
  obtain ⟨c2, hc2⟩ : ∃ r, c1 ++ b = r := ⟨_, rfl⟩
  have hcat : a ++ 10 :: b = c2 := by rw [← hc2, ← hc1]; simp
  rw [hcat] at hC
  have HC := Lib.hid hC
  have e1 : bs a ++ (⟨#[10]⟩ : ByteArray) = bs c1 := (append_bs a [10]).trans (congrArg bs hc1)
  have e2 : bs c1 ++ bs b = bs c2 := (append_bs c1 b).trans (congrArg bs hc2)
  have z1 : (bs c1).size = c1.length := bs_size c1
  have hl0 : a.length ≤ 9223372036854775807 := by omega
  have hl1 : b.length ≤ 9223372036854775807 := by omega
  have l1 : c1.length ≤ 2001 := by rw [← hc1]; simp; omega
  have l2 : c2.length ≤ 4001 := by rw [← hc2]; simp; omega
  have hl3 : c2.length ≤ 9223372036854775807 := by omega
  clear hc1 hc2 hcat hC hnl
  have q0 : ((f : Int) != 0) = true := by simp; omega
  have q3 : ((f : Int) == (f : Int)) = true := by simp
  clear hA hP hK hf hat t2
  go_enter Tryz.func8, Tryz.ntmps8
  go_wp2_with fail
  refine (Parse_c N _ a hl0 hN HE.out).mono ?_
  rw [HA.out]
  rintro e w1 ⟨va, rfl, hv, hb⟩
  have HB1 := Lib.hid (hb)
  have hN1 : N ≤ w1.heap.size := Nat.le_trans hN hb.size
  have HE1 := Lib.hid (HE.out.after hb)
  have HT1 := Lib.hid (HT.out.after hb)
  have VA := Lib.hid hv
  obtain ⟨sa1, sc1, rfl, k1, kk1, _⟩ := hv.shape
  clear hv hb
  go_wp2_with fail
  refine (Parse_c N _ b hl1 hN1 HE1.out).mono ?_
  rw [HP.out]
  rintro e w2 ⟨vb, rfl, hv, hb⟩
  have HB2 := Lib.hid (HB1.out.trans (hb.mono HB1.out.size))
  have hN2 : N ≤ w2.heap.size := Nat.le_trans hN1 hb.size
  have HE2 := Lib.hid (HE1.out.after hb)
  have HT2 := Lib.hid (HT1.out.after hb)
  replace VA := Lib.hid (VA.out.after hb)
  have VB := Lib.hid hv
  obtain ⟨sa2, sc2, rfl, k2, kk2, _⟩ := hv.shape
  clear hv hb
  go_wp2_with fail
  refine (rTokens_c _ b hl1).mono ?_
  rw [HK.out]
  rintro e w3 ⟨vt, rfl, hv, hb⟩
  have HB3 := Lib.hid (HB2.out.trans (hb.mono HB2.out.size))
  have hN3 : N ≤ w3.heap.size := Nat.le_trans hN2 hb.size
  have HE3 := Lib.hid (HE2.out.after hb)
  have HT3 := Lib.hid (HT2.out.after hb)
  replace VA := Lib.hid (VA.out.after hb)
  replace VB := Lib.hid (VB.out.after hb)
  have VT := Lib.hid hv
  obtain ⟨sa3, sc3, rfl, k3, kk3, _⟩ := hv.shape
  clear hv hb
  go_wp2_with fail
  refine (Parse_c N _ c2 hl3 hN3 HE3.out).mono ?_
  rw [HC.out]
  rintro e w4 ⟨vc, rfl, hv, hb⟩
  have HB4 := Lib.hid (HB3.out.trans (hb.mono HB3.out.size))
  have hN4 : N ≤ w4.heap.size := Nat.le_trans hN3 hb.size
  have HE4 := Lib.hid (HE3.out.after hb)
  have HT4 := Lib.hid (HT3.out.after hb)
  replace VA := Lib.hid (VA.out.after hb)
  replace VB := Lib.hid (VB.out.after hb)
  replace VT := Lib.hid (VT.out.after hb)
  have VC := Lib.hid hv
  obtain ⟨sa4, sc4, rfl, k4, kk4, _⟩ := hv.shape
  clear hv hb
  go_wp2_with fail
  refine (sawake_c N _ hN4 HE4.out HT4.out).mono ?_
  rintro e w5 ⟨rfl, hb⟩
  have HB5 := Lib.hid (HB4.out.trans (hb.mono HB4.out.size))
  clear hb
  go_wp2_with fail
  go_ret
  exact ⟨rfl, HB5.out⟩
set_option maxRecDepth 100000 in
set_option maxHeartbeats 4000000 in
theorem joins_both (N : Nat) (w : World) (a b : List UInt8) (hl : a.length ≤ 2000) (hl2 : b.length ≤ 2000) (h : (parseF a).2.2 = 0) (hf : (parseF b).2.2 = 0) (hN : N ≤ w.heap.size) (he : Wds N w) (ht : Tab10 w) : Calls Tryz.prog 8 #[.string (bs a), .string (bs b)] w (RetB w true) := by
  have hsa : (bs a).size = a.length := bs_size a
  have hsb : (bs b).size = b.length := bs_size b
  have hnl : ¬ 4096 < (a ++ 10 :: b).length := by have := apart_len hl hl2; omega
  have HE := Lib.hid he
  have HT := Lib.hid ht
  clear he ht
  obtain ⟨⟨l, fr, e⟩, hA⟩ : ∃ R, parseF a = R := ⟨_, rfl⟩
  obtain ⟨⟨m, ub, f⟩, hP⟩ : ∃ R, parseF b = R := ⟨_, rfl⟩
  obtain ⟨⟨ts, lo, lx⟩, hK⟩ : ∃ R, toksF b = R := ⟨_, rfl⟩
  have HA := Lib.hid hA
  have HP := Lib.hid hP
  have HK := Lib.hid hK
  rw [hA] at h
  simp only at h
  subst h
  rw [hP] at hf
  simp only at hf
  subst hf
  obtain ⟨hlx, hC⟩ := (joins_ok hnl hA).2 m ub hP
  rw [hK] at hlx
  simp only at hlx
  subst hlx
  obtain ⟨K, hKK⟩ : ∃ K, a.length + 1 = K := ⟨_, rfl⟩
  rw [hKK] at hC
  have HKK := Lib.hid hKK
  have hKK2 : K ≤ 2001 := by omega
  clear hKK
  obtain ⟨n, hn⟩ : ∃ n, l ++ shL ((K : Nat) : Int) m = n := ⟨_, rfl⟩
  have hnl2 : n.length = l.length + m.length := by rw [← hn, List.length_append, shL_len]
  rw [hn] at hC
  have HNN := Lib.hid hn
  have HST : Hid (eqL (shL ((K : Nat) : Int) m) m = true) := (eqL_iff _ _).2 (stripL_sh _ m)
  obtain ⟨c1, hc1⟩ : ∃ r, a ++ [10] = r := ⟨_, rfl⟩
  obtain ⟨c2, hc2⟩ : ∃ r, c1 ++ b = r := ⟨_, rfl⟩
  have hcat : a ++ 10 :: b = c2 := by rw [← hc2, ← hc1]; simp
  rw [hcat] at hC
  have HC := Lib.hid hC
  have e1 : bs a ++ (⟨#[10]⟩ : ByteArray) = bs c1 := (append_bs a [10]).trans (congrArg bs hc1)
  have e2 : bs c1 ++ bs b = bs c2 := (append_bs c1 b).trans (congrArg bs hc2)
  have z1 : (bs c1).size = c1.length := bs_size c1
  have hl0 : a.length ≤ 9223372036854775807 := by omega
  have hl1 : b.length ≤ 9223372036854775807 := by omega
  have l1 : c1.length ≤ 2001 := by rw [← hc1]; simp; omega
  have l2 : c2.length ≤ 4001 := by rw [← hc2]; simp; omega
  have hl3 : c2.length ≤ 9223372036854775807 := by omega
  clear hc1 hc2 hcat hC hnl
  clear hA hP hK hn
  go_enter Tryz.func8, Tryz.ntmps8
  go_wp2_with fail
  refine (Parse_c N _ a hl0 hN HE.out).mono ?_
  rw [HA.out]
  rintro e w1 ⟨va, rfl, hv, hb⟩
  have HB1 := Lib.hid (hb)
  have hN1 : N ≤ w1.heap.size := Nat.le_trans hN hb.size
  have HE1 := Lib.hid (HE.out.after hb)
  have HT1 := Lib.hid (HT.out.after hb)
  have VA := Lib.hid hv
  obtain ⟨sa1, sc1, rfl, k1, kk1, _⟩ := hv.shape
  clear hv hb
  go_wp2_with fail
  refine (Parse_c N _ b hl1 hN1 HE1.out).mono ?_
  rw [HP.out]
  rintro e w2 ⟨vb, rfl, hv, hb⟩
  have HB2 := Lib.hid (HB1.out.trans (hb.mono HB1.out.size))
  have hN2 : N ≤ w2.heap.size := Nat.le_trans hN1 hb.size
  have HE2 := Lib.hid (HE1.out.after hb)
  have HT2 := Lib.hid (HT1.out.after hb)
  replace VA := Lib.hid (VA.out.after hb)
  have VB := Lib.hid hv
  obtain ⟨sa2, sc2, rfl, k2, kk2, _⟩ := hv.shape
  clear hv hb
  go_wp2_with fail
  refine (rTokens_c _ b hl1).mono ?_
  rw [HK.out]
  rintro e w3 ⟨vt, rfl, hv, hb⟩
  have HB3 := Lib.hid (HB2.out.trans (hb.mono HB2.out.size))
  have hN3 : N ≤ w3.heap.size := Nat.le_trans hN2 hb.size
  have HE3 := Lib.hid (HE2.out.after hb)
  have HT3 := Lib.hid (HT2.out.after hb)
  replace VA := Lib.hid (VA.out.after hb)
  replace VB := Lib.hid (VB.out.after hb)
  have VT := Lib.hid hv
  obtain ⟨sa3, sc3, rfl, k3, kk3, _⟩ := hv.shape
  clear hv hb
  go_wp2_with fail
  refine (Parse_c N _ c2 hl3 hN3 HE3.out).mono ?_
  rw [HC.out]
  rintro e w4 ⟨vc, rfl, hv, hb⟩
  have HB4 := Lib.hid (HB3.out.trans (hb.mono HB3.out.size))
  have hN4 : N ≤ w4.heap.size := Nat.le_trans hN3 hb.size
  have HE4 := Lib.hid (HE3.out.after hb)
  have HT4 := Lib.hid (HT3.out.after hb)
  replace VA := Lib.hid (VA.out.after hb)
  replace VB := Lib.hid (VB.out.after hb)
  replace VT := Lib.hid (VT.out.after hb)
  have VC := Lib.hid hv
  obtain ⟨sa4, sc4, rfl, k4, kk4, _⟩ := hv.shape
  clear hv hb
  have hn1 : n.length ≤ l.length + m.length := by omega
  have hn2 : l.length + m.length ≤ n.length := by omega
  have q5 : ((n.length : Int) != (l.length : Int) + (m.length : Int)) = false := by simp; omega
  clear hnl2
  go_wp2_with fail
  refine (rEqual_yes _ _ _ _ _ l (SlC.front (m := shL ((K : Nat) : Int) m) (by rw [HNN.out]; exact VC.out)) VA.out).mono ?_
  rintro e w5 ⟨rfl, hb⟩
  have HB5 := Lib.hid (HB4.out.trans (hb.mono HB4.out.size))
  have hN5 : N ≤ w5.heap.size := Nat.le_trans hN4 hb.size
  have HE5 := Lib.hid (HE4.out.after hb)
  have HT5 := Lib.hid (HT4.out.after hb)
  replace VA := Lib.hid (VA.out.after hb)
  replace VB := Lib.hid (VB.out.after hb)
  replace VC := Lib.hid (VC.out.after hb)
  clear hb
  go_wp2_with fail
  all_goals (
    refine (rSame_c (fun b => w3.heap.size ≤ b) (fun b => w1.heap.size ≤ b) w5 _ _ (shL ((K : Nat) : Int) m) m (by first | exact SlC.back2 (by rw [HNN.out]; exact VC.out) (by rw [shL_len]; omega) h | exact SlC.back0 (by rw [HNN.out]; exact VC.out) (by rw [shL_len]; omega) h) VB.out).mono ?_
    rw [HST.out]
    rintro e w6 ⟨rfl, hb⟩
    have HB6 := Lib.hid (HB5.out.trans (hb.mono HB5.out.size))
    have hN6 : N ≤ w6.heap.size := Nat.le_trans hN5 hb.size
    have HE6 := Lib.hid (HE5.out.after hb)
    have HT6 := Lib.hid (HT5.out.after hb)
    replace VA := Lib.hid (VA.out.after hb)
    replace VB := Lib.hid (VB.out.after hb)
    replace VC := Lib.hid (VC.out.after hb)
    clear hb h
    try generalize Option.map (fun x : Addr => x.add (l.length * 8)) sa4 = qq
    go_wp2_with fail
    go_loopg [17] m.length (fun g t wx => ∃ i : Nat, i ≤ m.length ∧ g = m.length - i ∧ t = .int .i64 (i : Int) ∧ Hid (Below w6.heap.size w6 wx))
    case atStart => exact ⟨0, Nat.zero_le _, rfl, rfl, Below.refl _ _⟩
    case round =>
      obtain ⟨i, hi, rfl, rfl, hbl⟩ := hrel
      by_cases hlt : i < m.length
      · obtain ⟨bn, on, cn, en, _, _, _, ln, hcn⟩ := (VC.out.after hbl.out).at_ (by omega)
        obtain ⟨bm, om, cm, em, _, _, _, lm, hcm⟩ := (VB.out.after hbl.out).at_ (by omega)
        injection en with en _ ec
        subst en ec
        injection em with em _ ec
        subst em ec
        obtain ⟨_, _, hn', _, _, _, _, _, _, _, x7⟩ := hcn (l.length + i) (by omega)
        obtain ⟨_, _, hm', _, _, _, _, _, _, _, y7⟩ := hcm i hlt
        have hoff : (n.getD (l.length + i) cl0).off = (m.getD i cl0).off + ((K : Nat) : Int) := by rw [← HNN.out]; exact shL_at _ l m hlt
        rw [hoff] at x7
        obtain ⟨z, hz⟩ : ∃ z, (m.getD i cl0).off = z := ⟨_, rfl⟩
        have hin : In64 (z + ((K : Nat) : Int)) := by have := (hasC_iff.1 hn').1.2.2.2.2.2; rw [hoff, hz] at this; exact this
        rw [hz] at x7 y7
        obtain ⟨y, hy⟩ : ∃ y, z + ((K : Nat) : Int) = y := ⟨_, rfl⟩
        rw [hy] at x7 hin
        have hKK := HKK.out
        have q8 : (y != (a.length : Int) + 1 + z) = false := by simp; omega
        have z1 : -9223372036854775808 ≤ (a.length : Int) + 1 + z := by have := hin.1; omega
        have z2 : (a.length : Int) + 1 + z ≤ 9223372036854775807 := by have := hin.2; omega
        have il : (l.length : Int) + (i : Int) < (n.length : Int) := by omega
        have il0 : (0 : Int) ≤ (l.length : Int) + (i : Int) := by omega
        have im : (i : Int) < (m.length : Int) := by omega
        have im0 : (0 : Int) ≤ (i : Int) := by omega
        clear hcn hcm hn' hm' hoff hz hy hin hKK
        go_wp2_with fail
        go_quiet (fail)
        go_wp2_with fail
        go_roundg (m.length - (i + 1))
        case measure => omega
        case rel => exact ⟨i + 1, by omega, rfl, by go_num, hbl.out.trans (below_drewN _ _ _)⟩
      · obtain rfl : i = m.length := by omega
        have hNl := Nat.le_trans hN6 hbl.out.size
        go_wp2_with fail
        refine (sawake_c N _ hNl (HE6.out.after hbl.out) (HT6.out.after hbl.out)).mono ?_
        rintro e w7 ⟨rfl, hb⟩
        have HB7 := Lib.hid ((HB6.out.trans (hbl.out.mono HB6.out.size)).trans (hb.mono (Nat.le_trans HB6.out.size hbl.out.size)))
        clear hb
        go_wp2_with fail
        go_ret
        exact ⟨rfl, HB7.out⟩)
theorem syntaxJoins_w (N : Nat) (w : World) (a b : List UInt8) (hl : a.length ≤ 9223372036854775807) (hl2 : b.length ≤ 9223372036854775807) (hN : N ≤ w.heap.size) (he : Wds N w) (ht : Tab10 w) : Calls Tryz.prog 8 #[.string (bs a), .string (bs b)] w (RetB w true) := by
  by_cases h : 2000 < a.length ∨ 2000 < b.length
  · exact joins_long N w a b hl hl2 h hN he ht
  · have h1 : a.length ≤ 2000 := by omega
    have h2 : b.length ≤ 2000 := by omega
    by_cases he1 : (parseF a).2.2 = 0
    · by_cases he2 : (parseF b).2.2 = 0
      · exact joins_both N w a b h1 h2 he1 he2 hN he ht
      · exact joins_e2 N w a b h1 h2 he1 he2 hN he ht
    · exact joins_e1 N w a b h1 h2 he1 hN he ht
end Go.Proofs.YtganlldidjbpiaaGreatDoor
