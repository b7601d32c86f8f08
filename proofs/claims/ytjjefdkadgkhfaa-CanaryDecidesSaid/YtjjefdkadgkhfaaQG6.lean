/- The walk of CanaryStates. -/
import Derived.Test.YtjjefdkadgkhfaaQG3
import Derived.Test.YtjjefdkadgkhfaaK23
import Derived.Deep.AppendLies
set_option linter.unusedVariables false
namespace Go.Proofs.Ytjjefdkadgkhfaa
open Go.RowKit

theorem clone_bo (w : World) (va : Value) (a : List Bool) (h : SlB w va a) (h0 : 0 < a.length) (ha : a.length ≤ 1000000) :
    Calls Try.prog 18 #[va] w fun e w' => ∃ v, e = .returned v ∧ w'.ownsRow w.heap.size 4 1 v a.length (a.map Value.bool) ∧ Below w.heap.size w w' := by
  have hs := h
  obtain ⟨p, cap, rfl, h2, h3, h5⟩ := h.shape
  rcases p with _ | ad
  · have hz := h5 rfl
    exfalso; omega
  · have hnil := fun W : World => Lib.run_eql_slice_nil (P := Try.prog) W 44 4 (some ad) a.length cap 0 0 Try.underlying44
    have hown := World.ownsRow_made (e := 4) (size := 1) (base := w.heap.size) w #[] 0 (Nat.le_refl _) (by simp) (by simp)
    have hnews := SlV.news (hs.alloc (.cells #[] 4))
    obtain ⟨i0, hi, hz0, hz1, hz2⟩ := info_parts infoBool
    have HOWN := Lib.hid hown
    have HNEWS := Lib.hid hnews
    have hlm : maxLen = 9223372036854775807 := rfl
    have HLM := Lib.hid hlm
    clear hs h5 h hown hnews hlm
    go_enter Try.func18, Try.ntmps18
    go_wp2_with (at_builtin; refine wpList_append_own _ rfl _ _ 44 rfl w.heap.size 4 i0 (.bool false) 1 1 Try.underlying44 hi hz0 hz1 hz2 rfl (by decide) _ _ _ rfl HOWN.out ad a.length cap (a.map Value.bool) rfl ?c1 HNEWS.out ?c3 ?c4 ?c5 ?c6 ?_)
    case c1 => simp
    case c3 => exact fun u hu => by obtain ⟨x, _, rfl⟩ := List.mem_map.1 hu; rfl
    case c4 => rw [HLM.out]; omega
    case c5 => omega
    case c6 => simp
    intro v' w1 hown' hgrow _
    have HS : Hid (w1.ownsRow w.heap.size 4 1 v' a.length (a.map Value.bool)) := by
      show World.ownsRow _ _ _ _ _ _ _
      simpa using hown'
    clear hown'
    go_wp2
    go_ret
    exact ⟨_, rfl, HS.out, ((Below.refl _ w).alloc (Nat.le_refl _) _).grown hgrow (by simp) (fun k hk => by simp [Value.ownBlock] at hk; omega)⟩
theorem sl_snoc {w : World} {base g c : Nat} {l : List Bool} (h : w.ownsRow base 4 1 (.slice (some ⟨g, 0, none⟩) (l.length + 1) c) (l.length + 1) (l.map Value.bool ++ [.bool true])) : SlB w (.slice (some ⟨g, 0, none⟩) (l.length + 1) c) (l ++ [true]) := by
  have e : l.map Value.bool ++ [.bool true] = (l ++ [true]).map Value.bool := by simp
  rw [e] at h
  exact (SlV.of_own h).1
theorem own_base {w : World} {b0 b1 n size : Nat} {t : TypeId} {v : Value} {xs : List Value} (h : w.ownsRow b1 t size v n xs) (hle : b0 ≤ b1) : w.ownsRow b0 t size v n xs := by
  refine ⟨h.1, ?_⟩
  rcases h.2 with h2 | ⟨g, cap, cur, e1, e2, e3⟩
  · exact .inl h2
  · exact .inr ⟨g, cap, cur, e1, Nat.le_trans hle e2, e3⟩
theorem own_ne {w : World} {base n b : Nat} {v : Value} {xs : List Value} {cs : Array Value} {t : TypeId} (h : w.ownsRow base 4 1 v n xs) (k : Box w b cs t) (ht : t ≠ 4) : some b ≠ v.ownBlock := by
  intro e
  rcases h.2 with ⟨rfl, _⟩ | ⟨g, cap, cur, rfl, _, hb, _⟩
  · cases e
  · have e2 : b = g := by simpa [Value.ownBlock] using e
    subst e2
    unfold Box at k
    rw [hb] at k
    injection k with k
    injection k with _ k2
    exact ht k2.symm
theorem runD_hosts {R : Ro} (h : ValidR R) (l : List Bool) : ∀ (k r : Nat), ∀ d ∈ runD R l r k, d.hosts.length ≤ 16
  | 0, r, d, hd => by
    rw [runD, List.mem_singleton] at hd
    subst hd; exact Nat.zero_le _
  | k + 1, r, d, hd => by
    rw [runD] at hd
    rcases List.mem_cons.1 hd with rfl | hd
    · show (hostsOf R _ _).length ≤ 16
      unfold hostsOf
      have := h.2.1
      simp; omega
    · split at hd
      · exact runD_hosts h l k (r + 1) d hd
      · rw [List.mem_singleton] at hd
        subst hd; exact Nat.zero_le _
theorem runD_length (R : Ro) (l : List Bool) : ∀ (k r : Nat), (runD R l r k).length ≤ k + 2
  | 0, r => by rw [runD]; simp
  | k + 1, r => by
    rw [runD, List.length_cons]
    split
    · have := runD_length R l k (r + 1); omega
    · simp
theorem reach_step {d : Dec} {ds : List Dec} {j n k : Nat} {r : Bool} (h : ds[j]? = some d) : (r || reach (ds.drop j) n k) = ((r || decide (n = k)) || reach (ds.drop (j + 1)) (n + d.hosts.length) k) := by
  have hj : j < ds.length := by
    rcases Nat.lt_or_ge j ds.length with h1 | h1
    · exact h1
    · rw [List.getElem?_eq_none h1] at h; cases h
  rw [List.drop_eq_getElem_cons hj, reach]
  rw [List.getElem?_eq_getElem hj] at h
  injection h with h
  rw [h, Bool.or_assoc]
theorem next_many {R : Ro} (h : ValidR R) {l : List Bool} (hl : l.length = R.hosts.length) : nextF R (l ++ [true]) = (⟨0, []⟩, 2) := by
  unfold nextF
  rw [if_pos h, if_pos (by simp; omega)]
theorem next_few {R : Ro} (h : ValidR R) {l : List Bool} {k : Nat} (hl : l.length = R.hosts.length) (hk : k ≤ R.hosts.length) : (nextF R (l.take k)).2 = if reach (runD R l 0 R.waves.length) 0 k = true then 0 else 8 := by
  unfold nextF
  rw [if_pos h, if_neg (by simp; omega)]
  have := next_reach h hl hk R.waves.length 0 (by omega) (by rw [cum_zero]; omega)
  rw [cum_zero] at this
  exact this

set_option pp.deepTerms true in
set_option pp.maxSteps 1000000 in
set_option maxRecDepth 100000 in
set_option maxHeartbeats 16000000 in
theorem canaryStates_c (w : World) (v : Value) (h : Nat) (ws : List Nat) (r0 r1 b0 b1 bits many : Nat) (k : IsS w v h ws r0 r1 b0 b1) (hbits : bits < 65536) (hmany : many < 256) : Calls Try.prog 5 #[v, .int .u16 (bits : Int), .int .u8 (many : Int)] w fun e w' => e = .returned (.bool true) ∧ Below w.heap.size w w' := by
  have hk := k
  obtain ⟨_, vw, rfl, hsw⟩ := k
  obtain ⟨pw, cw, rfl, _, _, _, _⟩ := hsw
  have hlm : (List.map (fun z => Value.int IntKind.u8 ((z : Nat) : Int)) ws).length = ws.length := by simp
  rw [hlm] at hk ⊢
  obtain ⟨R, hR⟩ : ∃ R, madeR h ws r0 r1 b0 b1 16 = R := ⟨_, rfl⟩
  have hv : ValidR R := hR ▸ madeR_valid h ws r0 r1 b0 b1 (by omega) (by omega)
  obtain ⟨W0, hW, bS, hb0⟩ : ∃ W0, W0 = w.alloc (.cells #[.int .u8 (h : Int), .slice pw ws.length cw, .int .u8 (r0 : Int), .int .u8 (r1 : Int), .int .u8 (b0 : Int), .int .u8 (b1 : Int)] 25) ∧ Box W0 w.heap.size #[.int .u8 (h : Int), .slice pw ws.length cw, .int .u8 (r0 : Int), .int .u8 (r1 : Int), .int .u8 (b0 : Int), .int .u8 (b1 : Int)] 25 ∧ Below w.heap.size w W0 :=
    ⟨_, rfl, Box.new w _ _, held_alloc (Below.refl _ w)⟩
  have s0 : W0.cell? ⟨w.heap.size, 0, none⟩ = some (.int .u8 (h : Int)) := bS.cell 0
  have s1 : W0.cell? ⟨w.heap.size, 1, none⟩ = some (.slice pw ws.length cw) := bS.cell 1
  have s2 : W0.cell? ⟨w.heap.size, 2, none⟩ = some (.int .u8 (r0 : Int)) := bS.cell 2
  have s3 : W0.cell? ⟨w.heap.size, 3, none⟩ = some (.int .u8 (r1 : Int)) := bS.cell 3
  have s4 : W0.cell? ⟨w.heap.size, 4, none⟩ = some (.int .u8 (b0 : Int)) := bS.cell 4
  have s5 : W0.cell? ⟨w.heap.size, 5, none⟩ = some (.int .u8 (b1 : Int)) := bS.cell 5
  have HS := Lib.hid (hk.after hb0)
  have HR := Lib.hid hR
  have HV := Lib.hid hv
  have HB := Lib.hid hb0
  obtain ⟨n, hn⟩ : ∃ n, R.hosts.length = n := ⟨_, rfl⟩
  have hn1 : 1 ≤ n := by rw [← hn]; exact hv.1
  have hn16 : n ≤ 16 := by rw [← hn]; exact hv.2.1
  have HN := Lib.hid hn
  obtain ⟨q, hq⟩ : ∃ q, many % (n + 2) = q := ⟨_, rfl⟩
  have hqn : q < n + 2 := by rw [← hq]; exact Nat.mod_lt _ (by omega)
  have hqz : (many : Int) % ((n : Int) + 2) = (q : Int) := by rw [← hq]; push_cast; rfl
  obtain ⟨fl, hfl⟩ : ∃ fl, bitsL n bits = fl := ⟨_, rfl⟩
  have hfn : fl.length = n := by rw [← hfl, bitsL_len]
  have HFL := Lib.hid hfl
  have HFN := Lib.hid hfn
  have HQZ := Lib.hid hqz
  clear hk hlm hR hv bS hb0 hq hfl hfn hqz hn
  go_enter Try.func5, Try.ntmps5
  go_upto_region 1 with fail
  rw [← hW]
  clear hW
  go_wp2_with fail
  refine (made_c _ _ h ws r0 r1 b0 b1 16 HS.out (by omega) (by omega)).mono ?_
  rw [HR.out]
  rintro e w1 ⟨v1, rfl, hv1, hb1⟩
  have hop := hv1.open
  rw [HN.out] at hop
  obtain ⟨p0, p1, p2, p3, p4, p5, k0, k1, k2, k3, k4, k5, rfl, _, _, _, _⟩ := hop
  go_upto_region 2 with fail
  obtain ⟨W1, hW⟩ : ∃ W1, W1 = w1.alloc (.cells #[.slice p0 n k0, .slice p1 R.waves.length k1, .bool R.rate.neg, .slice p2 R.rate.num.length k2, .slice p3 R.rate.den.length k3, .bool R.bound.neg, .slice p4 R.bound.num.length k4, .slice p5 R.bound.den.length k5] 32) := ⟨_, rfl⟩
  have hb : Below w1.heap.size w1 W1 := hW ▸ held_alloc (Below.refl _ w1)
  have BR := Lib.hid (show Box W1 w1.heap.size #[.slice p0 n k0, .slice p1 R.waves.length k1, .bool R.rate.neg, .slice p2 R.rate.num.length k2, .slice p3 R.rate.den.length k3, .bool R.bound.neg, .slice p4 R.bound.num.length k4, .slice p5 R.bound.den.length k5] 32 from hW ▸ Box.new w1 _ _)
  have HRO := Lib.hid (hv1.after hb)
  have hbb := hb1.trans (hb.mono hb1.size)
  replace HB := Lib.hid (HB.out.trans (hbb.mono HB.out.size))
  rw [← hW]
  clear hW hb hbb hb1 hv1 s0 s1 s2 s3 s4 s5 HS
  obtain ⟨B, hB⟩ : ∃ B, w1.heap.size = B := ⟨_, rfl⟩
  rw [hB] at BR ⊢
  clear hB
  obtain ⟨c0, c1, c2, c3, c4, c5, c6, c7⟩ := BR.out.cells8
  go_wp2_with fail
  refine (outcomes_c _ n bits hn16 hbits).mono ?_
  rw [HFL.out]
  rintro e w2 ⟨v2, rfl, hv2, hb2⟩
  obtain ⟨pf, cf, rfl, hcf1, hcf2, hcf3⟩ := hv2.shape
  replace BR := Lib.hid (BR.out.after hb2)
  replace HRO := Lib.hid (HRO.out.after hb2)
  replace HB := Lib.hid (HB.out.trans (hb2.mono HB.out.size))
  have HF := Lib.hid hv2
  have hfl1 : fl.length ≤ 1000000 := by rw [HFN.out]; omega
  clear hv2 hb2 c0 c1 c2 c3 c4 c5 c6 c7
  obtain ⟨c0, c1, c2, c3, c4, c5, c6, c7⟩ := BR.out.cells8
  have lR := BR.out.lt
  have hqz := HQZ.out
  have mkS : Hid (∀ w', Below w2.heap.size w2 w' → w'.cell? ⟨B, 0, none⟩ = some (.slice p0 n k0) ∧ w'.cell? ⟨B, 1, none⟩ = some (.slice p1 R.waves.length k1) ∧ w'.cell? ⟨B, 2, none⟩ = some (.bool R.rate.neg) ∧ w'.cell? ⟨B, 3, none⟩ = some (.slice p2 R.rate.num.length k2) ∧ w'.cell? ⟨B, 4, none⟩ = some (.slice p3 R.rate.den.length k3) ∧ w'.cell? ⟨B, 5, none⟩ = some (.bool R.bound.neg) ∧ w'.cell? ⟨B, 6, none⟩ = some (.slice p4 R.bound.num.length k4) ∧ w'.cell? ⟨B, 7, none⟩ = some (.slice p5 R.bound.den.length k5)) := fun w' hb => (BR.out.after hb).cells8
  by_cases hqn2 : n < q
  · have hqi : (n : Int) < (q : Int) := Int.ofNat_lt.2 hqn2
    go_upto_region 5 with fail
    clear hqz
    rw [HQZ.out]
    have hfl0 : 0 < fl.length := by rw [HFN.out]; exact hn1
    have hfl20 : fl.length ≤ 20 := by rw [HFN.out]; omega
    have HNX : Hid (nextF R (fl ++ [true]) = (⟨0, []⟩, 2)) := next_many HV.out (by rw [HFN.out, HN.out])
    obtain ⟨i0, hi, hz0, hz1, hz2⟩ := info_parts infoBool
    have HLM : Hid (maxLen = 9223372036854775807) := Lib.hid rfl
    have HFD0 : Hid (SlB w2.drew (.slice pf fl.length cf) fl) := SlB.after (HF.out) (below_dr (Below.refl _ _))
    have HFD1 : Hid (SlB (w2.alloc (.cells #[.bool true] 4)).drew (.slice pf fl.length cf) fl) := SlB.after (HF.out |>.alloc (.cells #[.bool true] 4)) (below_dr (Below.refl _ _))
    have HFD2 : Hid (SlB (w2.alloc (.cells #[.int .u8 0, .slice none 0 0] 53)).drew (.slice pf fl.length cf) fl) := SlB.after (HF.out |>.alloc (.cells #[.int .u8 0, .slice none 0 0] 53)) (below_dr (Below.refl _ _))
    have HFD3 : Hid (SlB ((w2.alloc (.cells #[.bool true] 4)).alloc (.cells #[.int .u8 0, .slice none 0 0] 53)).drew (.slice pf fl.length cf) fl) := SlB.after (HF.out |>.alloc (.cells #[.bool true] 4) |>.alloc (.cells #[.int .u8 0, .slice none 0 0] 53)) (below_dr (Below.refl _ _))
    have HFD4 : Hid (SlB ((w2.alloc (.cells #[.int .u8 0, .slice none 0 0] 53)).alloc (.cells #[.bool true] 4)).drew (.slice pf fl.length cf) fl) := SlB.after (HF.out |>.alloc (.cells #[.int .u8 0, .slice none 0 0] 53) |>.alloc (.cells #[.bool true] 4)) (below_dr (Below.refl _ _))
    go_cut [11] (fun x wx => x = .int .i64 2 ∧ Hid (Below w2.heap.size w2 wx))
    case first =>
      go_region_held3 (fun w' => w'.cell? ⟨B, 0, none⟩ = some (.slice p0 n k0) ∧ w'.cell? ⟨B, 1, none⟩ = some (.slice p1 R.waves.length k1) ∧ w'.cell? ⟨B, 2, none⟩ = some (.bool R.rate.neg) ∧ w'.cell? ⟨B, 3, none⟩ = some (.slice p2 R.rate.num.length k2) ∧ w'.cell? ⟨B, 4, none⟩ = some (.slice p3 R.rate.den.length k3) ∧ w'.cell? ⟨B, 5, none⟩ = some (.bool R.bound.neg) ∧ w'.cell? ⟨B, 6, none⟩ = some (.slice p4 R.bound.num.length k4) ∧ w'.cell? ⟨B, 7, none⟩ = some (.slice p5 R.bound.den.length k5))
        (first | (refine mkS.out _ ?_; (repeat (first | with_reducible exact hk3 | with_reducible exact hk2 | with_reducible exact hk1 | with_reducible exact Below.refl _ _ | with_reducible refine below_dr ?_ | with_reducible refine held_alloc ?_ | ((with_reducible refine held_set ?_ ?_); rotate_left; first | with_reducible exact hlz | (simp <;> omega)))); done))
        (first
         | (go_at_call 18; ((with_reducible refine (clone_bo (w2.drew) (.slice pf fl.length cf) fl HFD0.out hfl0 hfl1).mono ?_); rintro e wa ⟨v, rfl, hown0, hb1⟩; obtain ⟨pa, ca, rfl⟩ := ownsRow_shape hown0; have hk1 : Below w2.heap.size w2 wa := below_of_drew hb1; have hown : wa.ownsRow w2.heap.size 4 1 (.slice pa fl.length ca) fl.length (fl.map Value.bool) := own_base hown0 (by simp <;> omega); have hsza : w2.heap.size ≤ wa.heap.size := hk1.size; skip))
         | (go_at_call 18; ((with_reducible refine (clone_bo ((w2.alloc (.cells #[.bool true] 4)).drew) (.slice pf fl.length cf) fl HFD1.out hfl0 hfl1).mono ?_); rintro e wa ⟨v, rfl, hown0, hb1⟩; obtain ⟨pa, ca, rfl⟩ := ownsRow_shape hown0; have hk1 : Below w2.heap.size w2 wa := (after_new (below_of_drew hb1)).1; have hown : wa.ownsRow w2.heap.size 4 1 (.slice pa fl.length ca) fl.length (fl.map Value.bool) := own_base hown0 (by simp <;> omega); have hsza : w2.heap.size ≤ wa.heap.size := hk1.size; have CX1 : Box wa w2.heap.size #[.bool true] 4 := (after_new (below_of_drew hb1)).2))
         | (go_at_call 18; ((with_reducible refine (clone_bo ((w2.alloc (.cells #[.int .u8 0, .slice none 0 0] 53)).drew) (.slice pf fl.length cf) fl HFD2.out hfl0 hfl1).mono ?_); rintro e wa ⟨v, rfl, hown0, hb1⟩; obtain ⟨pa, ca, rfl⟩ := ownsRow_shape hown0; have hk1 : Below w2.heap.size w2 wa := (after_new (below_of_drew hb1)).1; have hown : wa.ownsRow w2.heap.size 4 1 (.slice pa fl.length ca) fl.length (fl.map Value.bool) := own_base hown0 (by simp <;> omega); have hsza : w2.heap.size ≤ wa.heap.size := hk1.size; have hlz : w2.heap.size ≤ w2.heap.size := (by omega); have CZ1 : Box wa w2.heap.size #[.int .u8 0, .slice none 0 0] 53 := (after_new (below_of_drew hb1)).2))
         | (go_at_call 18; ((with_reducible refine (clone_bo (((w2.alloc (.cells #[.bool true] 4)).alloc (.cells #[.int .u8 0, .slice none 0 0] 53)).drew) (.slice pf fl.length cf) fl HFD3.out hfl0 hfl1).mono ?_); rintro e wa ⟨v, rfl, hown0, hb1⟩; obtain ⟨pa, ca, rfl⟩ := ownsRow_shape hown0; have hk1 : Below w2.heap.size w2 wa := (after_new2 (below_of_drew hb1)).1; have hown : wa.ownsRow w2.heap.size 4 1 (.slice pa fl.length ca) fl.length (fl.map Value.bool) := own_base hown0 (by simp <;> omega); have hsza : w2.heap.size ≤ wa.heap.size := hk1.size; have hlz : w2.heap.size ≤ w2.heap.size + 1 := (by omega); have CP := after_new2 (below_of_drew hb1); have CX1 : Box wa w2.heap.size #[.bool true] 4 := CP.2.1; have CZ1 : Box wa (w2.heap.size + 1) #[.int .u8 0, .slice none 0 0] 53 := CP.2.2))
         | (go_at_call 18; ((with_reducible refine (clone_bo (((w2.alloc (.cells #[.int .u8 0, .slice none 0 0] 53)).alloc (.cells #[.bool true] 4)).drew) (.slice pf fl.length cf) fl HFD4.out hfl0 hfl1).mono ?_); rintro e wa ⟨v, rfl, hown0, hb1⟩; obtain ⟨pa, ca, rfl⟩ := ownsRow_shape hown0; have hk1 : Below w2.heap.size w2 wa := (after_new2 (below_of_drew hb1)).1; have hown : wa.ownsRow w2.heap.size 4 1 (.slice pa fl.length ca) fl.length (fl.map Value.bool) := own_base hown0 (by simp <;> omega); have hsza : w2.heap.size ≤ wa.heap.size := hk1.size; have hlz : w2.heap.size ≤ w2.heap.size := (by omega); have CP := after_new2 (below_of_drew hb1); have CZ1 : Box wa w2.heap.size #[.int .u8 0, .slice none 0 0] 53 := CP.2.1; have CX1 : Box wa (w2.heap.size + 1) #[.bool true] 4 := CP.2.2))
         | (go_at_call 21; ((with_reducible refine (Next_c wp (.agg #[.slice p0 n k0, .slice p1 R.waves.length k1, .bool R.rate.neg, .slice p2 R.rate.num.length k2, .slice p3 R.rate.den.length k3, .bool R.bound.neg, .slice p4 R.bound.num.length k4, .slice p5 R.bound.den.length k5]) (.slice (some ⟨gg, 0, none⟩) (fl.length + 1) gc) R (fl ++ [true]) (HRO.out.after hk2) (hv)).mono ?_); rw [HNX.out]; rintro e wc ⟨v3, rfl, hv3, hb2⟩; obtain ⟨a3, g3, rfl⟩ := hv3.shape; have CZ3 : Box wc _ #[.int .u8 0, .slice none 0 0] 53 := CZ2.after hb2; have hk3 : Below w2.heap.size w2 wc := hk2.trans (hb2.mono hk2.size); obtain ⟨z0, z1⟩ := CZ3.cells2'; have f0 := CZ3.frozen 0; have f1 := CZ3.frozen 1; have zlt := CZ3.lt))
         | (go_at_call 21; ((with_reducible refine (Next_c wp (.agg #[.slice p0 n k0, .slice p1 R.waves.length k1, .bool R.rate.neg, .slice p2 R.rate.num.length k2, .slice p3 R.rate.den.length k3, .bool R.bound.neg, .slice p4 R.bound.num.length k4, .slice p5 R.bound.den.length k5]) (.slice (some ⟨gg, 0, none⟩) (fl.length + 1) gc) R (fl ++ [true]) (HRO.out.after hk2) (hv)).mono ?_); rw [HNX.out]; rintro e wc ⟨v3, rfl, hv3, hb2⟩; obtain ⟨a3, g3, rfl⟩ := hv3.shape; have hk3 : Below w2.heap.size w2 wc := hk2.trans (hb2.mono hk2.size)))
         | (go_at_call 21; ((with_reducible refine (Next_c (wp.alloc (.cells #[.int .u8 0, .slice none 0 0] 53)) (.agg #[.slice p0 n k0, .slice p1 R.waves.length k1, .bool R.rate.neg, .slice p2 R.rate.num.length k2, .slice p3 R.rate.den.length k3, .bool R.bound.neg, .slice p4 R.bound.num.length k4, .slice p5 R.bound.den.length k5]) (.slice (some ⟨gg, 0, none⟩) (fl.length + 1) gc) R (fl ++ [true]) ((HRO.out.after hk2).after (held_alloc (Below.refl _ _))) (SlB.alloc hv _)).mono ?_); rw [HNX.out]; rintro e wc ⟨v3, rfl, hv3, hb2⟩; obtain ⟨a3, g3, rfl⟩ := hv3.shape; have CZ3 : Box wc wp.heap.size #[.int .u8 0, .slice none 0 0] 53 := (after_new hb2).2; have hk3 : Below w2.heap.size w2 wc := hk2.trans ((after_new hb2).1.mono hk2.size); have hlz : w2.heap.size ≤ wp.heap.size := hk2.size; obtain ⟨z0, z1⟩ := CZ3.cells2'; have f0 := CZ3.frozen 0; have f1 := CZ3.frozen 1; have zlt := CZ3.lt))
         | (refine step_append_lies _ (by rfl) _ _ _ (by rfl) w2.heap.size 4 i0 (.bool false) 1 1 Try.underlying44 hi hz0 hz1 hz2 rfl (by decide) (.slice pa fl.length ca) fl.length (fl.map Value.bool) (by rfl) (hown) ⟨w2.heap.size, 0, none⟩ 1 1 [.bool true] (by rfl) (by rfl) (World.news_of_block (cs := #[.bool true]) (t := 4) (fr := (0, 0)) (CX1)) (by intro u hu; simp at hu; subst hu; rfl) (by omega) (by rw [HLM.out]; omega) (by omega) (hsza) (wa.heap.size) (by simp) ?_; intro gg gc wp hown2 hgr _ _; have hkp : Below w2.heap.size w2 wa := hk1; have hk2 : Below w2.heap.size w2 wp := hkp.grown hgr hkp.size (fun g e => (ownsRow_ge (hown) g e).1); have hv : SlB wp (.slice (some ⟨gg, 0, none⟩) (fl.length + 1) gc) (fl ++ [true]) := sl_snoc hown2; have CZ2 : Box wp _ #[.int .u8 0, .slice none 0 0] 53 := Box.grown' (CZ1) hgr (own_ne (hown) (CZ1) (by decide)))
         | (refine step_append_lies _ (by rfl) _ _ _ (by rfl) w2.heap.size 4 i0 (.bool false) 1 1 Try.underlying44 hi hz0 hz1 hz2 rfl (by decide) (.slice pa fl.length ca) fl.length (fl.map Value.bool) (by rfl) (hown) ⟨(w2.heap.size + 1), 0, none⟩ 1 1 [.bool true] (by rfl) (by rfl) (World.news_of_block (cs := #[.bool true]) (t := 4) (fr := (0, 0)) (CX1)) (by intro u hu; simp at hu; subst hu; rfl) (by omega) (by rw [HLM.out]; omega) (by omega) (hsza) (wa.heap.size) (by simp) ?_; intro gg gc wp hown2 hgr _ _; have hkp : Below w2.heap.size w2 wa := hk1; have hk2 : Below w2.heap.size w2 wp := hkp.grown hgr hkp.size (fun g e => (ownsRow_ge (hown) g e).1); have hv : SlB wp (.slice (some ⟨gg, 0, none⟩) (fl.length + 1) gc) (fl ++ [true]) := sl_snoc hown2; have CZ2 : Box wp _ #[.int .u8 0, .slice none 0 0] 53 := Box.grown' (CZ1) hgr (own_ne (hown) (CZ1) (by decide)))
         | (refine step_append_lies _ (by rfl) _ _ _ (by rfl) w2.heap.size 4 i0 (.bool false) 1 1 Try.underlying44 hi hz0 hz1 hz2 rfl (by decide) (.slice pa fl.length ca) fl.length (fl.map Value.bool) (by rfl) (hown) ⟨w2.heap.size, 0, none⟩ 1 1 [.bool true] (by rfl) (by rfl) (World.news_of_block (cs := #[.bool true]) (t := 4) (fr := (0, 0)) (CX1)) (by intro u hu; simp at hu; subst hu; rfl) (by omega) (by rw [HLM.out]; omega) (by omega) (hsza) (wa.heap.size) (by simp) ?_; intro gg gc wp hown2 hgr _ _; have hkp : Below w2.heap.size w2 wa := hk1; have hk2 : Below w2.heap.size w2 wp := hkp.grown hgr hkp.size (fun g e => (ownsRow_ge (hown) g e).1); have hv : SlB wp (.slice (some ⟨gg, 0, none⟩) (fl.length + 1) gc) (fl ++ [true]) := sl_snoc hown2; skip)
         | (refine step_append_lies _ (by rfl) _ _ _ (by rfl) w2.heap.size 4 i0 (.bool false) 1 1 Try.underlying44 hi hz0 hz1 hz2 rfl (by decide) (.slice pa fl.length ca) fl.length (fl.map Value.bool) (by rfl) ((hown).alloc (.cells #[.int .u8 0, .slice none 0 0] 53)) ⟨w2.heap.size, 0, none⟩ 1 1 [.bool true] (by rfl) (by rfl) (World.news_of_block (cs := #[.bool true]) (t := 4) (fr := (0, 0)) (CX1.alloc (.cells #[.int .u8 0, .slice none 0 0] 53))) (by intro u hu; simp at hu; subst hu; rfl) (by omega) (by rw [HLM.out]; omega) (by omega) (by simp <;> omega) (wa.heap.size + 1) (by simp) ?_; intro gg gc wp hown2 hgr _ _; have hkp : Below w2.heap.size w2 (wa.alloc (.cells #[.int .u8 0, .slice none 0 0] 53)) := held_alloc (hk1); have hk2 : Below w2.heap.size w2 wp := hkp.grown hgr hkp.size (fun g e => (ownsRow_ge ((hown).alloc (.cells #[.int .u8 0, .slice none 0 0] 53)) g e).1); have hv : SlB wp (.slice (some ⟨gg, 0, none⟩) (fl.length + 1) gc) (fl ++ [true]) := sl_snoc hown2; have hlz : w2.heap.size ≤ wa.heap.size := (by omega); have CZ2 : Box wp (wa.heap.size) #[.int .u8 0, .slice none 0 0] 53 := by have h9 := Box.grown' ((Box.new (wa) _ _)) hgr (own_ne ((hown).alloc (.cells #[.int .u8 0, .slice none 0 0] 53)) ((Box.new (wa) _ _)) (by decide)); (first | exact h9 | (simp at h9; exact h9)))
         | (refine step_append_lies _ (by rfl) _ _ _ (by rfl) w2.heap.size 4 i0 (.bool false) 1 1 Try.underlying44 hi hz0 hz1 hz2 rfl (by decide) (.slice pa fl.length ca) fl.length (fl.map Value.bool) (by rfl) ((hown).alloc (.cells #[.bool true] 4)) ⟨wa.heap.size, 0, none⟩ 1 1 [.bool true] (by rfl) (by rfl) (World.news_of_block (cs := #[.bool true]) (t := 4) (fr := (0, 0)) (Box.new wa #[.bool true] 4)) (by intro u hu; simp at hu; subst hu; rfl) (by omega) (by rw [HLM.out]; omega) (by omega) (by simp <;> omega) (wa.heap.size + 1) (by simp) ?_; intro gg gc wp hown2 hgr _ _; have hkp : Below w2.heap.size w2 (wa.alloc (.cells #[.bool true] 4)) := held_alloc (hk1); have hk2 : Below w2.heap.size w2 wp := hkp.grown hgr hkp.size (fun g e => (ownsRow_ge ((hown).alloc (.cells #[.bool true] 4)) g e).1); have hv : SlB wp (.slice (some ⟨gg, 0, none⟩) (fl.length + 1) gc) (fl ++ [true]) := sl_snoc hown2; have CZ2 : Box wp _ #[.int .u8 0, .slice none 0 0] 53 := Box.grown' (CZ1.alloc _) hgr (own_ne ((hown).alloc (.cells #[.bool true] 4)) (CZ1.alloc _) (by decide)))
         | (refine step_append_lies _ (by rfl) _ _ _ (by rfl) w2.heap.size 4 i0 (.bool false) 1 1 Try.underlying44 hi hz0 hz1 hz2 rfl (by decide) (.slice pa fl.length ca) fl.length (fl.map Value.bool) (by rfl) ((hown).alloc (.cells #[.bool true] 4)) ⟨wa.heap.size, 0, none⟩ 1 1 [.bool true] (by rfl) (by rfl) (World.news_of_block (cs := #[.bool true]) (t := 4) (fr := (0, 0)) (Box.new wa #[.bool true] 4)) (by intro u hu; simp at hu; subst hu; rfl) (by omega) (by rw [HLM.out]; omega) (by omega) (by simp <;> omega) (wa.heap.size + 1) (by simp) ?_; intro gg gc wp hown2 hgr _ _; have hkp : Below w2.heap.size w2 (wa.alloc (.cells #[.bool true] 4)) := held_alloc (hk1); have hk2 : Below w2.heap.size w2 wp := hkp.grown hgr hkp.size (fun g e => (ownsRow_ge ((hown).alloc (.cells #[.bool true] 4)) g e).1); have hv : SlB wp (.slice (some ⟨gg, 0, none⟩) (fl.length + 1) gc) (fl ++ [true]) := sl_snoc hown2; skip)
         | (refine step_append_lies _ (by rfl) _ _ _ (by rfl) w2.heap.size 4 i0 (.bool false) 1 1 Try.underlying44 hi hz0 hz1 hz2 rfl (by decide) (.slice pa fl.length ca) fl.length (fl.map Value.bool) (by rfl) (((hown).alloc (.cells #[.bool true] 4)).alloc (.cells #[.int .u8 0, .slice none 0 0] 53)) ⟨wa.heap.size, 0, none⟩ 1 1 [.bool true] (by rfl) (by rfl) (World.news_of_block (cs := #[.bool true]) (t := 4) (fr := (0, 0)) ((Box.new wa #[.bool true] 4).alloc (.cells #[.int .u8 0, .slice none 0 0] 53))) (by intro u hu; simp at hu; subst hu; rfl) (by omega) (by rw [HLM.out]; omega) (by omega) (by simp <;> omega) (wa.heap.size + 1 + 1) (by simp) ?_; intro gg gc wp hown2 hgr _ _; have hkp : Below w2.heap.size w2 ((wa.alloc (.cells #[.bool true] 4)).alloc (.cells #[.int .u8 0, .slice none 0 0] 53)) := held_alloc (held_alloc (hk1)); have hk2 : Below w2.heap.size w2 wp := hkp.grown hgr hkp.size (fun g e => (ownsRow_ge (((hown).alloc (.cells #[.bool true] 4)).alloc (.cells #[.int .u8 0, .slice none 0 0] 53)) g e).1); have hv : SlB wp (.slice (some ⟨gg, 0, none⟩) (fl.length + 1) gc) (fl ++ [true]) := sl_snoc hown2; have hlz : w2.heap.size ≤ wa.heap.size + 1 := (by omega); have CZ2 : Box wp (wa.heap.size + 1) #[.int .u8 0, .slice none 0 0] 53 := by have h9 := Box.grown' ((Box.new ((wa.alloc (.cells #[.bool true] 4))) _ _)) hgr (own_ne (((hown).alloc (.cells #[.bool true] 4)).alloc (.cells #[.int .u8 0, .slice none 0 0] 53)) ((Box.new ((wa.alloc (.cells #[.bool true] 4))) _ _)) (by decide)); (first | exact h9 | (simp at h9; exact h9)))
         | (refine step_append_lies _ (by rfl) _ _ _ (by rfl) w2.heap.size 4 i0 (.bool false) 1 1 Try.underlying44 hi hz0 hz1 hz2 rfl (by decide) (.slice pa fl.length ca) fl.length (fl.map Value.bool) (by rfl) (((hown).alloc (.cells #[.int .u8 0, .slice none 0 0] 53)).alloc (.cells #[.bool true] 4)) ⟨wa.heap.size + 1, 0, none⟩ 1 1 [.bool true] (by rfl) (by rfl) (World.news_of_block (cs := #[.bool true]) (t := 4) (fr := (0, 0)) (show Box ((wa.alloc (.cells #[.int .u8 0, .slice none 0 0] 53)).alloc (.cells #[.bool true] 4)) (wa.heap.size + 1) #[.bool true] 4 from by have h9 := Box.new (wa.alloc (.cells #[.int .u8 0, .slice none 0 0] 53)) #[.bool true] 4; rw [World.size_alloc] at h9; exact h9)) (by intro u hu; simp at hu; subst hu; rfl) (by omega) (by rw [HLM.out]; omega) (by omega) (by simp <;> omega) (wa.heap.size + 1 + 1) (by simp) ?_; intro gg gc wp hown2 hgr _ _; have hkp : Below w2.heap.size w2 ((wa.alloc (.cells #[.int .u8 0, .slice none 0 0] 53)).alloc (.cells #[.bool true] 4)) := held_alloc (held_alloc (hk1)); have hk2 : Below w2.heap.size w2 wp := hkp.grown hgr hkp.size (fun g e => (ownsRow_ge (((hown).alloc (.cells #[.int .u8 0, .slice none 0 0] 53)).alloc (.cells #[.bool true] 4)) g e).1); have hv : SlB wp (.slice (some ⟨gg, 0, none⟩) (fl.length + 1) gc) (fl ++ [true]) := sl_snoc hown2; have hlz : w2.heap.size ≤ wa.heap.size := (by omega); have CZ2 : Box wp (wa.heap.size) #[.int .u8 0, .slice none 0 0] 53 := by have h9 := Box.grown' (((Box.new (wa) _ _)).alloc _) hgr (own_ne (((hown).alloc (.cells #[.int .u8 0, .slice none 0 0] 53)).alloc (.cells #[.bool true] 4)) (((Box.new (wa) _ _)).alloc _) (by decide)); (first | exact h9 | (simp at h9; exact h9)))
         | (fail))
      all_goals
        (go_wp2_with fail
         go_meet
         case rel =>
           refine ⟨rfl, ?_⟩
           first
           | (with_reducible exact Lib.hid (held_alloc hk3))
           | (with_reducible exact Lib.hid (below_put2 hk3 hlz))
           | exact Lib.hid (below_put2 hk3 (by simp <;> omega)))
    case rest =>
    obtain ⟨rfl, hbc⟩ := hcut
    replace HB := Lib.hid (HB.out.trans (hbc.out.mono HB.out.size))
    clear hbc c0 c1 c2 c3 c4 c5 c6 c7
    go_wp2_with fail
    refine (works32_c _).mono ?_
    rintro e w9 ⟨rfl, hb9⟩
    have HEND := Lib.hid (HB.out.trans (hb9.mono HB.out.size))
    clear hb9
    go_wp2_with fail
    go_ret
    exact ⟨rfl, HEND.out⟩
  · have hqi : ¬ ((n : Int) < (q : Int)) := by omega
    go_upto_region 7 with fail
    clear hqz
    rw [HQZ.out]
    have hqn3 : q ≤ n := by omega
    obtain ⟨ds, hds⟩ : ∃ ds, runD R fl 0 R.waves.length = ds := ⟨_, rfl⟩
    have HDS := Lib.hid hds
    have HRUN : Hid (runF R fl = (ds, 0)) := by
      show _ = _
      unfold runF
      rw [if_pos HV.out, if_pos (by rw [HFN.out, HN.out]), hds]
    have hlen : ds.length ≤ 20 := by
      rw [← hds]
      have := runD_length R fl R.waves.length 0
      have h2 := waves_le HV.out
      omega
    have HH : Hid (∀ d ∈ ds, d.hosts.length ≤ 16) := by rw [← hds]; exact runD_hosts HV.out fl _ _
    obtain ⟨nd, hnd⟩ : ∃ nd, nextF R (fl.take q) = nd := ⟨_, rfl⟩
    have HND := Lib.hid hnd
    have HN2 : Hid (nd.2 = if reach ds 0 q = true then 0 else 8) := by
      show _ = _
      rw [← hnd, ← hds]
      exact next_few HV.out (by rw [HFN.out, HN.out]) (by rw [HN.out]; exact hqn3)
    clear hds hnd
    have HFD : Hid (SlB w2.drew (.slice pf fl.length cf) fl) := HF.out.after (below_dr (Below.refl _ w2))
    go_region_held3 (fun w' => w'.cell? ⟨B, 0, none⟩ = some (.slice p0 n k0) ∧ w'.cell? ⟨B, 1, none⟩ = some (.slice p1 R.waves.length k1) ∧ w'.cell? ⟨B, 2, none⟩ = some (.bool R.rate.neg) ∧ w'.cell? ⟨B, 3, none⟩ = some (.slice p2 R.rate.num.length k2) ∧ w'.cell? ⟨B, 4, none⟩ = some (.slice p3 R.rate.den.length k3) ∧ w'.cell? ⟨B, 5, none⟩ = some (.bool R.bound.neg) ∧ w'.cell? ⟨B, 6, none⟩ = some (.slice p4 R.bound.num.length k4) ∧ w'.cell? ⟨B, 7, none⟩ = some (.slice p5 R.bound.den.length k5))
      (first | (refine mkS.out _ ?_; (repeat (first | with_reducible exact hk2 | with_reducible exact hk1 | with_reducible exact Below.refl _ _ | with_reducible refine below_dr ?_)); done))
      (first
       | (go_at_call 18; ((with_reducible refine (clone_b w2.drew (.slice pf fl.length cf) fl HFD.out hfl1).mono ?_); rintro e wa ⟨v, rfl, hv, _, hb1⟩; obtain ⟨pa, ca, rfl, _, _, _⟩ := hv.shape; have hk1 : Below w2.heap.size w2 wa := below_of_drew hb1))
       | (go_at_call 17; refine (Run_c _ _ _ R fl ?_ ?_).mono ?_; exact HRO.out.after hk1; exact hv; rw [HRUN.out]; rintro e wb ⟨v2, rfl, hv2, hb2⟩; have hv2 : SlD wb v2 ds := hv2; have hk2 := hk1.trans (hb2.mono hk1.size))
       | (fail))
    obtain ⟨a6, g6, rfl, hd1, hd2, hd3⟩ := SlD.shape4 hv2
    replace BR := Lib.hid (BR.out.after hk2)
    replace HRO := Lib.hid (HRO.out.after hk2)
    replace HB := Lib.hid (HB.out.trans (hk2.mono HB.out.size))
    replace HF := Lib.hid (HF.out.after hk2)
    have HD := Lib.hid hv2
    clear hv2 hv hb1 hb2 hk1 hk2 mkS HFD c0 c1 c2 c3 c4 c5 c6 c7 lR
    obtain ⟨c0, c1, c2, c3, c4, c5, c6, c7⟩ := BR.out.cells8
    have lR := BR.out.lt
    have mkS : Hid (∀ w', Below wb.heap.size wb w' → w'.cell? ⟨B, 0, none⟩ = some (.slice p0 n k0) ∧ w'.cell? ⟨B, 1, none⟩ = some (.slice p1 R.waves.length k1) ∧ w'.cell? ⟨B, 2, none⟩ = some (.bool R.rate.neg) ∧ w'.cell? ⟨B, 3, none⟩ = some (.slice p2 R.rate.num.length k2) ∧ w'.cell? ⟨B, 4, none⟩ = some (.slice p3 R.rate.den.length k3) ∧ w'.cell? ⟨B, 5, none⟩ = some (.bool R.bound.neg) ∧ w'.cell? ⟨B, 6, none⟩ = some (.slice p4 R.bound.num.length k4) ∧ w'.cell? ⟨B, 7, none⟩ = some (.slice p5 R.bound.den.length k5)) := fun w' hb => (BR.out.after hb).cells8
    have hfr : Hid (SlB wb.drew (.slice pf q cf) (fl.take q)) := (HF.out.after (below_dr (Below.refl _ wb))).front q (by rw [HFN.out]; exact hqn3)
    have hfrA : Hid (SlB (wb.alloc (.cells #[.int .u8 0, .slice none 0 0] 53)).drew (.slice pf q cf) (fl.take q)) := (SlB.after (HF.out.alloc (.cells #[.int .u8 0, .slice none 0 0] 53)) (below_dr (Below.refl _ (wb.alloc (.cells #[.int .u8 0, .slice none 0 0] 53))))).front q (by rw [HFN.out]; exact hqn3)
    have hq1 : (0 : Int) ≤ (q : Int) := by omega
    have hq2 : (q : Int) ≤ (cf : Int) := by have := HFN.out; omega
    have hq3 : (fl.take q).length ≤ 1000000 := by rw [List.length_take]; omega
    obtain ⟨tk, htk⟩ : ∃ tk, fl.take q = tk := ⟨_, rfl⟩
    rw [htk] at hfr hfrA HND hq3
    clear htk
    go_upto_region 8 with fail
    go_cut [15] (fun x wx => x = .int .i64 nd.2 ∧ Hid (Below wb.heap.size wb wx))
    case first =>
      go_region_held3 (fun w' => w'.cell? ⟨B, 0, none⟩ = some (.slice p0 n k0) ∧ w'.cell? ⟨B, 1, none⟩ = some (.slice p1 R.waves.length k1) ∧ w'.cell? ⟨B, 2, none⟩ = some (.bool R.rate.neg) ∧ w'.cell? ⟨B, 3, none⟩ = some (.slice p2 R.rate.num.length k2) ∧ w'.cell? ⟨B, 4, none⟩ = some (.slice p3 R.rate.den.length k3) ∧ w'.cell? ⟨B, 5, none⟩ = some (.bool R.bound.neg) ∧ w'.cell? ⟨B, 6, none⟩ = some (.slice p4 R.bound.num.length k4) ∧ w'.cell? ⟨B, 7, none⟩ = some (.slice p5 R.bound.den.length k5))
        (first | (refine mkS.out _ ?_; (repeat (first | with_reducible exact hk2 | with_reducible exact hk1 | with_reducible exact Below.refl _ _ | with_reducible refine below_dr ?_ | with_reducible refine held_alloc ?_ | ((with_reducible refine held_set ?_ ?_); rotate_left; with_reducible exact hle))); done))
        (first
         | (go_at_call 18; ((with_reducible refine (clone_b wb.drew (.slice pf q cf) tk hfr.out hq3).mono ?_); rintro e wa ⟨v, rfl, hv, _, hb1⟩; obtain ⟨pa, ca, rfl, _, _, _⟩ := hv.shape; have hk1 : Below wb.heap.size wb wa := below_of_drew hb1; have hle : wb.heap.size ≤ wa.heap.size := hk1.size))
         | (go_at_call 18; ((with_reducible refine (clone_b ((wb.alloc (.cells #[.int .u8 0, .slice none 0 0] 53)).drew) (.slice pf q cf) tk hfrA.out hq3).mono ?_); rintro e wa ⟨v, rfl, hv, _, hb1⟩; obtain ⟨pa, ca, rfl, _, _, _⟩ := hv.shape; have hk1 : Below wb.heap.size wb wa := (after_new (below_of_drew hb1)).1; have CZ1 : Box wa wb.heap.size #[.int .u8 0, .slice none 0 0] 53 := (after_new (below_of_drew hb1)).2; have hle : wb.heap.size ≤ wb.heap.size := Nat.le_refl _))
         | (go_at_call 21; ((with_reducible refine (Next_c wa (.agg #[.slice p0 n k0, .slice p1 R.waves.length k1, .bool R.rate.neg, .slice p2 R.rate.num.length k2, .slice p3 R.rate.den.length k3, .bool R.bound.neg, .slice p4 R.bound.num.length k4, .slice p5 R.bound.den.length k5]) (.slice pa tk.length ca) R tk (HRO.out.after hk1) hv).mono ?_); rw [HND.out]; rintro e wc ⟨v3, rfl, hv3, hb2⟩; obtain ⟨a3, g3, rfl⟩ := hv3.shape; have CZ : Box wc wb.heap.size #[.int .u8 0, .slice none 0 0] 53 := CZ1.after hb2; have hk2 : Below wb.heap.size wb wc := hk1.trans (hb2.mono hk1.size); obtain ⟨z0, z1⟩ := CZ.cells2'; have f0 := CZ.frozen 0; have f1 := CZ.frozen 1; have zlt := CZ.lt))
         | (go_at_call 21; ((with_reducible refine (Next_c wa (.agg #[.slice p0 n k0, .slice p1 R.waves.length k1, .bool R.rate.neg, .slice p2 R.rate.num.length k2, .slice p3 R.rate.den.length k3, .bool R.bound.neg, .slice p4 R.bound.num.length k4, .slice p5 R.bound.den.length k5]) (.slice pa tk.length ca) R tk (HRO.out.after hk1) hv).mono ?_); rw [HND.out]; rintro e wc ⟨v3, rfl, hv3, hb2⟩; obtain ⟨a3, g3, rfl⟩ := hv3.shape; have hk2 : Below wb.heap.size wb wc := hk1.trans (hb2.mono hk1.size)))
         | (go_at_call 21; ((with_reducible refine (Next_c (wa.alloc (.cells #[.int .u8 0, .slice none 0 0] 53)) (.agg #[.slice p0 n k0, .slice p1 R.waves.length k1, .bool R.rate.neg, .slice p2 R.rate.num.length k2, .slice p3 R.rate.den.length k3, .bool R.bound.neg, .slice p4 R.bound.num.length k4, .slice p5 R.bound.den.length k5]) (.slice pa tk.length ca) R tk ((HRO.out.after hk1).after (held_alloc (Below.refl _ _))) (SlB.alloc hv _)).mono ?_); rw [HND.out]; rintro e wc ⟨v3, rfl, hv3, hb2⟩; obtain ⟨a3, g3, rfl⟩ := hv3.shape; have CZ : Box wc wa.heap.size #[.int .u8 0, .slice none 0 0] 53 := (after_new hb2).2; have hk2 : Below wb.heap.size wb wc := hk1.trans ((after_new hb2).1.mono hk1.size); obtain ⟨z0, z1⟩ := CZ.cells2'; have f0 := CZ.frozen 0; have f1 := CZ.frozen 1; have zlt := CZ.lt))
         | (fail))
      all_goals
        (go_wp2_with fail
         go_meet
         case rel =>
           refine ⟨rfl, ?_⟩
           first
           | (with_reducible exact Lib.hid (held_alloc hk2))
           | (with_reducible exact Lib.hid (below_put2 hk2 hle)))
    case rest =>
    obtain ⟨rfl, hbc⟩ := hcut
    have hb := hbc.out
    replace HB := Lib.hid (HB.out.trans (hb.mono HB.out.size))
    replace HD := Lib.hid (HD.out.after hb)
    obtain ⟨nd1, nd2⟩ := nd
    simp only at HN2
    clear hb hbc hfr hfrA mkS c0 c1 c2 c3 c4 c5 c6 c7 lR BR HRO HF hcf1 hcf2 hcf3
    have hnd1 : 0 < ds.length ∨ ds.length = 0 := by omega
    go_wp2_with fail
    go_loopg [16, 17, 73] ds.length (fun g t16 t17 t73 wx => ∃ (j m : Nat) (r : Bool), j ≤ ds.length ∧ m ≤ 16 * j ∧ g = ds.length - j ∧ t16 = .int .i64 (m : Int) ∧ t17 = .bool r ∧ t73 = .int .i64 (j : Int) ∧ Hid ((r || reach (ds.drop j) m q) = reach ds 0 q) ∧ Hid (Below wc.heap.size wc wx))
    case atStart => exact ⟨0, 0, false, Nat.zero_le _, Nat.zero_le _, rfl, rfl, rfl, rfl, Lib.hid (by simp), Lib.hid (Below.refl _ _)⟩
    case round =>
      obtain ⟨j, m, r, hjn, hmj, rfl, rfl, rfl, rfl, hrc, hbx⟩ := hrel
      by_cases hlt : j < ds.length
      · have hlt' : (j : Int) < (ds.length : Int) := Int.ofNat_lt.2 hlt
        obtain ⟨d, hd⟩ : ∃ d, ds[j]? = some d := ⟨ds[j], List.getElem?_eq_getElem hlt⟩
        have hrs := reach_step (n := m) (k := q) (r := r) hd
        rw [hrc.out] at hrs
        have HRS := Lib.hid hrs
        have hdl := HH.out d (List.mem_of_getElem? hd)
        obtain ⟨a', c', he, _, _, _, hcells⟩ := HD.out
        obtain ⟨rfl, rfl⟩ : a6 = a' ∧ g6 = c' := by injection he with e1 _ e3; exact ⟨e1, e3⟩
        obtain ⟨bd, rfl, hbd, hcd⟩ := hcells (by omega)
        obtain ⟨u, hu1, hu2, hu3⟩ := hcd j d hd
        have hu3' := hu3.after hbx.out
        obtain ⟨pu, cu, rfl⟩ := hu3.shape
        have k1 := keep_cell hbx.out hu1
        have k2 := keep_cell hbx.out hu2
        have HBX := Lib.hid hbx.out
        clear hrs hcells hcd hu1 hu2 hu3 hu3' hd hrc hbx he
        cases r with
        | true =>
          go_wp2_with fail
          go_roundg (ds.length - (j + 1))
          case measure => omega
          case rel => exact ⟨j + 1, m + d.hosts.length, true, by omega, by omega, rfl, by go_num, rfl, by go_num, Lib.hid (by rw [HRS.out]; rfl), Lib.hid (held_alloc HBX.out)⟩
        | false =>
          by_cases hmq : m = q
          · have hz : ((m : Int) == (q : Int)) = true := by rw [beq_iff_eq]; omega
            have HMQ := Lib.hid hmq
            clear hmq
            go_wp2_with fail
            go_roundg (ds.length - (j + 1))
            case measure => omega
            case rel => exact ⟨j + 1, m + d.hosts.length, true, by omega, by omega, rfl, by go_num, rfl, by go_num, Lib.hid (by rw [HRS.out, decide_eq_true HMQ.out]; rfl), Lib.hid (held_alloc HBX.out)⟩
          · have hz : ((m : Int) == (q : Int)) = false := beq_eq_false_iff_ne.2 (by omega)
            have HMQ := Lib.hid hmq
            clear hmq
            go_wp2_with fail
            go_roundg (ds.length - (j + 1))
            case measure => omega
            case rel => exact ⟨j + 1, m + d.hosts.length, false, by omega, by omega, rfl, by go_num, rfl, by go_num, Lib.hid (by rw [HRS.out, decide_eq_false HMQ.out]; rfl), Lib.hid (held_alloc HBX.out)⟩
      · obtain rfl : j = ds.length := by omega
        have hre : r = reach ds 0 q := by
          have := hrc.out
          rw [List.drop_length, reach, Bool.or_false] at this
          exact this
        have HBX := Lib.hid hbx.out
        cases r with
        | true =>
          have hn2 : nd2 = 0 := by rw [HN2.out, if_pos hre.symm]
          subst hn2
          clear hre hrc hbx
          go_wp2_with fail
          refine (works32_c _).mono ?_
          rintro e w9 ⟨rfl, hb9⟩
          have HEND := Lib.hid (HB.out.trans ((HBX.out.trans (hb9.mono HBX.out.size)).mono HB.out.size))
          clear hb9
          go_wp2_with fail
          go_ret
          exact ⟨rfl, HEND.out⟩
        | false =>
          have hn2 : nd2 = 8 := by rw [HN2.out, if_neg (by rw [← hre]; simp)]
          subst hn2
          clear hre hrc hbx
          go_wp2_with fail
          refine (works32_c _).mono ?_
          rintro e w9 ⟨rfl, hb9⟩
          have HEND := Lib.hid (HB.out.trans ((HBX.out.trans (hb9.mono HBX.out.size)).mono HB.out.size))
          clear hb9
          go_wp2_with fail
          go_ret
          exact ⟨rfl, HEND.out⟩
end Go.Proofs.Ytjjefdkadgkhfaa
