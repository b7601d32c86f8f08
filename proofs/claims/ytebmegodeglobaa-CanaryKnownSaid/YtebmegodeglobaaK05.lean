/- Walks: divide, where the divisor has two limbs or more.
   Fractions as data: a sign and two lists of limbs; when they are valid; what the operations return. No program in sight. -/
import Derived.Test.YtebmegodeglobaaK04
import Derived.Deep.DeepCutAuto
import Derived.Deep.CutBlock
import Derived.Deep.LoopGhost
import Derived.Test.YtebmegodeglobaaK02
set_option linter.unusedVariables false
namespace Go.Proofs.Ytebmegodeglobaa
open Go.RowKit

set_option maxRecDepth 100000 in
set_option maxHeartbeats 4000000 in
theorem divide_big (w : World) (va vb : Value) (x y : Nat) (h : Sl w va (limbs x)) (k : Sl w vb (limbs y)) (hge : y ≤ x) (hn : 2 ≤ (limbs y).length) (ha : (limbs x).length ≤ 1000000) :
    Calls Try.prog 57 #[va, vb] w (RetDiv w (x / y) (x % y)) := by
  have hy0 : 0 < y := by
    rcases Nat.eq_zero_or_pos y with h0 | h0
    · subst h0; rw [limbs_zero] at hn; simp at hn
    · exact h0
  have hnl := limbs_len_mono hge
  have hlast := limbs_last hy0
  have hlastlt := (limbs_lb y).getD ((limbs y).length - 1)
  have hs := Lib.hid h
  have ks := Lib.hid k
  obtain ⟨_, p, cap, rfl, h2, h3, h5, h6⟩ := h
  obtain ⟨_, q, cap', rfl, k2, k3, k5, k6⟩ := k
  obtain ⟨b, off, rfl, hb, hc⟩ := k6 (by omega)
  have hc0 := hc ((limbs y).length - 1) (by omega)
  clear hc k6 k5 h5 h6
  generalize hla : (limbs x).length = la at *
  generalize hln : (limbs y).length = n at *
  have HLA := Lib.hid hla
  have HLN := Lib.hid hln
  clear hla hln
  have hne : ((n : Int) == 1) = false := by rw [beq_eq_false_iff_ne]; omega
  have CA : Hid (∀ (W : World) (s : Nat), s < 32 → Sl W (.slice p la cap) (limbs x) → Calls Try.prog 75 #[.slice p la cap, .int .i64 (s : Int)] W (RetRow W (la + 1) (fun o => val o = val (limbs x) * 2 ^ s))) :=
    fun W s h1 h2 => by have := shifted_c W _ _ s h2 h1 (by rw [HLA.out]; exact ha); rwa [HLA.out] at this
  have CB : Hid (∀ (W : World) (s : Nat), s < 32 → Sl W (.slice (some ⟨b, off, none⟩) n cap') (limbs y) → Calls Try.prog 75 #[.slice (some ⟨b, off, none⟩) n cap', .int .i64 (s : Int)] W (RetRow W (n + 1) (fun o => val o = val (limbs y) * 2 ^ s))) :=
    fun W s h1 h2 => by have := shifted_c W _ _ s h2 h1 (by rw [HLN.out]; omega); rwa [HLN.out] at this
  go_enter Try.func57, Try.ntmps57
  go_wp2_with fail
  refine (compare_c _ _ _ _ _ hs.out ks.out).mono ?_
  rintro e w' ⟨r, rfl, hr, nd, rfl⟩
  have hr' : 0 ≤ r := by have := hr.lt; omega
  clear hr
  go_wp2_with fail
  refine (lz_c _ (by omega) hlastlt _).mono ?_
  rintro e w' ⟨s, rfl, hs32, hs1, hs2, rfl⟩
  go_wp2_with fail
  go_region_with (first
    | (go_at_call_of 75 (Value.slice p la cap); refine (CA.out _ s hs32 ?_).mono ?_; (exact hs.out.drewN _); rintro e w1 ⟨gu, U, rfl, hgu, hU, hUl, hUb, hUv, hb1⟩)
    | (go_at_call_of 75 (Value.slice (some ⟨b, off, none⟩) n cap'); refine (CB.out _ s hs32 ?_).mono ?_; (exact (ks.out.drewN _).after hb1); rintro e w2 ⟨gv, V, rfl, hgv, hV, hVl, hVb, hVv, hb2⟩))
  obtain ⟨m, hm⟩ : ∃ m, la + 1 = m + n := ⟨la + 1 - n, by omega⟩
  have hmk := run_make32 m (by omega)
  rw [show ((m : Nat) : Int) = (la : Int) + 1 - n from by omega] at hmk
  have HM := Lib.hid hm
  have hm1 : la + 1 ≤ m + n := by omega
  have hm2 : m + n ≤ la + 1 := by omega
  have HUl := Lib.hid hUl
  have HVl := Lib.hid hVl
  have HUv := Lib.hid hUv
  have HVv := Lib.hid hVv
  have HU := Lib.hid hU
  have HV := Lib.hid hV
  clear hm hUl hVl hUv hVv hU hV
  go_wp2_with fail
  -- the world behind the three new rows, and all that is known of it
  obtain ⟨w3, hw3⟩ : ∃ w3, w3 = w2.alloc (.cells (mk32 m) 95) := ⟨_, rfl⟩
  rw [← hw3]
  have hlu : gu < w1.heap.size := HU.out.lt
  have hlv : gv < w2.heap.size := HV.out.lt
  have hsz1 := hb1.size
  have hsz2 := hb2.size
  simp only [World.drewN] at hsz1 hgu
  have ST : Hid (Row32 w3 gu U ∧ Row32 w3 gv V ∧ Row32 w3 w2.heap.size (List.replicate m 0) ∧ Below w.heap.size w w3) := by
    subst hw3
    refine ⟨(HU.out.below hb2 hlu).alloc _, HV.out.alloc _, Row32.made w2 m, ?_⟩
    exact (((below_drewN w _ _).trans hb1).trans (hb2.mono hsz1)).alloc (Nat.le_trans hsz1 hsz2) _
  obtain ⟨gq, hgq⟩ : ∃ g, g = w2.heap.size := ⟨_, rfl⟩
  have hguv : gu ≠ gv := by omega
  have hguq : gu ≠ gq := by omega
  have hgvq : gv ≠ gq := by omega
  have hgq0 : w.heap.size ≤ gq := by omega
  have hgv0 : w.heap.size ≤ gv := by omega
  rw [← hgq] at ST ⊢
  obtain ⟨nv1, nv2, nv3, nv4⟩ := norm_div HVl.out hVb HVv.out HLN.out (by omega) hs1 hs2 hs32
  have K0 := KInv.start HUl.out hUb HUv.out HLA.out HM.out (by omega) nv1 nv4 hs32
  have hvl : ∀ i, i < n → lim (V.take n) i = lim V i := fun i hi => lim_take hi
  have hvb := nv2
  generalize hv : V.take n = v at *
  have HNV1 := Lib.hid nv1
  have HNV3 := Lib.hid nv3
  have HK0 := Lib.hid K0
  have hcv1 : w3.cell? ⟨gv, n - 1, none⟩ = some (.int .u32 ((lim v (n - 1) : Nat) : Int)) := by rw [hvl _ (by omega)]; exact ST.out.2.1.cell (by rw [HVl.out]; omega)
  have hcv2 : w3.cell? ⟨gv, n - 2, none⟩ = some (.int .u32 ((lim v (n - 2) : Nat) : Int)) := by rw [hvl _ (by omega)]; exact ST.out.2.1.cell (by rw [HVl.out]; omega)
  have HVL := Lib.hid hvl
  clear hw3 hgq hb1 hb2 HU HV hlu hlv hsz1 hsz2 hgv CA CB hmk hv nv1 nv2 nv3 K0 hvl
  have hz1 : (0 : Int) ≤ (n : Int) - 1 := by omega
  have hz2 : (0 : Int) ≤ (n : Int) - 2 := by omega
  have hz3 : (n : Int) - 1 < n := by omega
  have hz4 : (n : Int) - 2 < n := by omega
  have htop2 := hvb.getD (n - 1)
  have hnx2 := hvb.getD (n - 2)
  go_wp2_with fail
  go_quiet (fail)
  go_wp2_with fail
  clear hcv1 hcv2
  go_loopg [14] m (fun g t wr => ∃ (Q U : List Nat), g ≤ m ∧ t = .int .i64 ((g : Int) - 1) ∧ Row32 wr gu U ∧ Row32 wr gq Q ∧ Row32 wr gv V ∧ Hid (U.length = la + 1 ∧ Q.length = m ∧ KInv (x * 2 ^ s) v Q U g) ∧ Below w.heap.size w wr)
  case atStart =>
    refine ⟨List.replicate m 0, U, Nat.le_refl _, ?_, ST.out.1, ST.out.2.2.1, ST.out.2.1, ⟨HUl.out, by simp, HK0.out⟩, ST.out.2.2.2.trans (below_drewN w3 _ _)⟩
    rw [show (la : Int) + 1 - n - 1 = (m : Int) - 1 from by omega]
  case round =>
    clear ST HK0 HUl hUb HUv U
    obtain ⟨Q, U, hgm, rfl, hU, hQ, hV, hK, hbl⟩ := hrel
    rcases Nat.eq_zero_or_pos gk with hz | hp
    · subst hz
      obtain ⟨d1, d2⟩ := hK.out.2.2.done
      have hUb := hK.out.2.2.2.2.1
      have hQb := hK.out.2.2.1
      have hsz := hbl.size
      have hq2 := Sl.of_row (cap := m) hQ hQb (by rw [hK.out.2.1]; omega) (by omega)
      rw [hK.out.2.1] at hq2
      have hdv : val Q = x / y := by rw [d1, HNV3.out, Nat.mul_div_mul_right _ _ (Nat.pow_pos (by omega))]
      have hdm : val U = (x % y) * 2 ^ s := by rw [d2, HNV3.out, Nat.mul_mod_mul_right]
      have hlt : val U < 4294967296 ^ n := by
        have := Nat.mod_lt (x * 2 ^ s) (show 0 < val v by rw [HNV3.out]; exact Nat.mul_pos hy0 (Nat.pow_pos (by omega)))
        have h2 := val_lt hvb
        rw [HNV1.out] at h2
        omega
      have hmk := run_make32 n (by omega)
      have HQ2 := Lib.hid hq2
      have HDV := Lib.hid hdv
      have HDM := Lib.hid hdm
      have HLT := Lib.hid hlt
      have HU := Lib.hid hU
      clear d1 d2 hQ hV hU hq2 hdv hdm hlt
      have hgul := HU.out.lt
      obtain ⟨wo2, rfl⟩ : ∃ wo2 : World, wo2 = wr := ⟨_, rfl⟩
      go_wp2_with fail
      go_loopg [25, 237] n (fun gk c t wx => ∃ (i : Nat) (R : List Nat), i ≤ n ∧ gk = n - i ∧ t = .int .i64 (i : Int) ∧ Row32 wx gu U ∧ Row32 wx wo2.heap.size R ∧ Hid (RshRel U R s n i) ∧ Below wo2.heap.size wo2 wx)
      case atStart => exact ⟨0, _, Nat.zero_le _, rfl, rfl, HU.out.alloc _, Row32.made wo2 n, RshRel.start U s n, (Below.refl _ wo2).alloc (Nat.le_refl _) _⟩
      case round =>
        obtain ⟨i, R, hi, rfl, rfl, hUx, hR, hrr, hbx⟩ := hrel
        have hszx := hbx.size
        rcases Nat.lt_or_ge i n with hlt | hgei
        · have hcu := hUx.cell (i := i) (by rw [hK.out.1]; omega)
          have hcu2 := hUx.cell (i := i + 1) (by rw [hK.out.1]; omega)
          have hcr := hR.cell (i := i) (by rw [hrr.out.1]; omega)
          have hfr := hR.frozen i
          have hu1 := hUb.getD i
          have hu2 := hUb.getD (i + 1)
          have hso := (rsh_or (b := lim U (i + 1)) hs32 hu1).1
          have hor : bits .or .u32 (((lim U i : Nat) : Int) / 2 ^ s) (((lim U (i + 1) : Nat) : Int) * 4294967296 / 2 ^ s % 4294967296) = ((rsh s (lim U i) (lim U (i + 1)) : Nat) : Int) := by
            have x1 : ((lim U i : Nat) : Int) / 2 ^ s = ((lim U i / 2 ^ s : Nat) : Int) := by rw [Int.natCast_ediv, Int.natCast_pow]; rfl
            have x2 : ((lim U (i + 1) : Nat) : Int) * 4294967296 / 2 ^ s % 4294967296 = ((lim U (i + 1) * 4294967296 / 2 ^ s % 4294967296 : Nat) : Int) := by
              rw [Int.natCast_emod, Int.natCast_ediv, Int.natCast_mul, Int.natCast_pow]; rfl
            have x3 : lim U i / 2 ^ s < 4294967296 := Nat.lt_of_le_of_lt (Nat.div_le_self _ _) hu1
            rw [x1, x2, u32_or_nat _ _ x3 (Nat.mod_lt _ (by omega)), hso]
          have HR := Lib.hid hR
          have HUX := Lib.hid hUx
          have hwne : gu ≠ wo2.heap.size := by omega
          clear hso hR hUx
          go_wp2_with fail
          go_region
          go_wp2_with fail
          go_roundg (n - (i + 1))
          case measure => omega
          case rel => exact ⟨i + 1, _, by omega, rfl, by go_num, (HUX.out.far (p := ⟨wo2.heap.size, i, none⟩) hwne _).drew_, (HR.out.set i _).drew_, hrr.out.step hUb hlt hs32, (hbx.setCell (Nat.le_refl _) _).drew⟩
        · obtain rfl : i = n := by omega
          have hrv := hrr.out.done (by rw [hK.out.1]; omega) HLT.out HDM.out
          have hr1 := Sl.of_row (cap := i) hR hrr.out.2.1 (by rw [hrr.out.1]; omega) (by omega)
          rw [hrr.out.1] at hr1
          have hq1 := HQ2.out.after hbx
          have HR1 := Lib.hid hr1
          have HQ1 := Lib.hid hq1
          have HRV := Lib.hid hrv
          clear hr1 hq1 hrv hR hUx
          go_wp2_with fail
          refine (trim_c _ _ _ HQ1.out).mono ?_
          rw [HDV.out]
          rintro e w' ⟨⟨_, _, hv1, rfl, hs1⟩, rfl⟩
          have S1 := Lib.hid hs1
          clear hv1 hs1
          go_wp2_with fail
          refine (trim_c _ _ _ HR1.out).mono ?_
          rw [HRV.out]
          rintro e w' ⟨⟨_, _, hv1, rfl, hs1⟩, rfl⟩
          have S2 := Lib.hid hs1
          clear hv1 hs1
          go_wp2_with fail
          go_ret2
          exact ⟨_, _, rfl, S1.out, S2.out, hbl.trans (hbx.mono hsz)⟩
    · obtain ⟨j, rfl⟩ : ∃ j, gk = j + 1 := ⟨gk - 1, by omega⟩
      have em : ((j + 1 : Nat) : Int) - 1 = (j : Int) := by omega
      rw [em]
      clear em
      have L := hK.out.2.2.lead hvb HNV1.out hn nv4 (by rw [hK.out.1]; omega)
      have hq0 := L.first
      have hq1 := L.first_le
      have hUb := hK.out.2.2.2.2.1
      have hu0 := hUb.getD (j + n)
      have hu1 := hUb.getD (j + n - 1)
      have hu2 := hUb.getD (j + n - 2)
      have hc0 := hU.cell (i := j + n) (by rw [hK.out.1]; omega)
      have hc1 := hU.cell (i := j + n - 1) (by rw [hK.out.1]; omega)
      have hc2 := hU.cell (i := j + n - 2) (by rw [hK.out.1]; omega)
      have hor : bits .or .u64 (((lim U (j + n) : Nat) : Int) * 4294967296) ((lim U (j + n - 1) : Nat) : Int) = ((lim U (j + n) * 4294967296 + lim U (j + n - 1) : Nat) : Int) := by
        have e : ((lim U (j + n) : Nat) : Int) * 4294967296 = ((lim U (j + n) * 4294967296 : Nat) : Int) := by omega
        rw [e, u64_or_nat _ _ (by omega) (by omega), nat_join 32 _ _ (by omega) (by omega)]
      have hh64 : lim U (j + n) * 4294967296 + lim U (j + n - 1) < 18446744073709551616 := by omega
      generalize hhead : lim U (j + n) * 4294967296 + lim U (j + n - 1) = head at *
      generalize hqt : val (U.drop j) / val v = qt at *
      have HHEAD := Lib.hid hhead
      have HQT := Lib.hid hqt
      have LL := Lib.hid L
      have HU := Lib.hid hU
      have HQ := Lib.hid hQ
      have HV := Lib.hid hV
      have hquo : ((head : Nat) : Int).tdiv ((lim v (n - 1) : Nat) : Int) = ((head / lim v (n - 1) : Nat) : Int) := by rw [Int.natCast_ediv, Int.tdiv_eq_ediv_of_nonneg (by omega)]
      have hrem : ((head : Nat) : Int).tmod ((lim v (n - 1) : Nat) : Int) = ((head % lim v (n - 1) : Nat) : Int) := by rw [Int.natCast_emod, Int.tmod_eq_emod_of_nonneg (by omega)]
      have hdm : head / lim v (n - 1) * lim v (n - 1) + head % lim v (n - 1) = head := by rw [Nat.mul_comm]; exact Nat.div_add_mod _ _
      have hrl : head % lim v (n - 1) < lim v (n - 1) := Nat.mod_lt _ (by omega)
      generalize hg0 : head / lim v (n - 1) = g0 at *
      generalize hr0 : head % lim v (n - 1) = r0 at *
      have HDM := Lib.hid hdm
      clear hhead hqt L hU hQ hV hdm hg0 hr0
      go_wp2_with fail
      go_quiet (fail)
      go_wp2_with fail
      go_quiet (fail)
      go_upto_block 2 with (fail)
      go_cut [16, 17] (fun a b wx => ∃ g : Nat, a = .int .u64 (g : Int) ∧ qt ≤ g ∧ g ≤ qt + 1 ∧ g ≤ 4294967296 ∧ Hid (∃ d, wx = wr.drewN d))
      case first =>
        go_wp2_with fail
        go_loopg [16, 17] g0 (fun gk a b wx => ∃ r : Nat, a = .int .u64 (gk : Int) ∧ b = .int .u64 (r : Int) ∧ Hid (gk * lim v (n - 1) + r = head) ∧ r < 4294967296 ∧ qt ≤ gk ∧ gk ≤ 4294967297 ∧ Hid (∃ d, wx = wr.drewN d))
        case atStart => exact ⟨r0, rfl, rfl, HDM.out, by omega, hq0, hq1, ⟨_, World.drewN_drewN _ _ _⟩⟩
        case round =>
          obtain ⟨r, rfl, rfl, hgr, hrb, hqg, hgb, hwd⟩ := hrel
          obtain ⟨d, rfl⟩ := hwd.out
          clear hwd
          -- the cell and the two sides of the test
          have hc2' : (wr.drewN d).cell? ⟨gu, j + n - 2, none⟩ = some (.int .u32 ((lim U (j + n - 2) : Nat) : Int)) := hc2
          have hor2 : bits .or .u64 ((r : Int) * 4294967296) ((lim U (j + n - 2) : Nat) : Int) = ((r * 4294967296 + lim U (j + n - 2) : Nat) : Int) := by
            have e : (r : Int) * 4294967296 = ((r * 4294967296 : Nat) : Int) := by omega
            rw [e, u64_or_nat _ _ (by omega) (by omega), nat_join 32 _ _ (by omega) (by omega)]
          have hmul : (gk : Int) * ((lim v (n - 2) : Nat) : Int) = ((gk * lim v (n - 2) : Nat) : Int) := by rw [Int.natCast_mul]
          have hz64 : r * 4294967296 + lim U (j + n - 2) < 18446744073709551616 := by omega
          generalize hzz : r * 4294967296 + lim U (j + n - 2) = z at hor2 hz64
          have HZ := Lib.hid hzz
          clear hzz
          -- what a step down does
          have step : Hid (4294967295 < gk ∨ z < gk * lim v (n - 2) → 1 ≤ gk ∧ qt ≤ gk - 1) := fun hh => by
            have := LL.out.down hgr.out (by rw [HQT.out]; exact hqg) (hh.imp id (fun h => by rw [HZ.out]; exact h))
            rwa [HQT.out] at this
          have stepeq : Hid (1 ≤ gk → (gk - 1) * lim v (n - 1) + (r + lim v (n - 1)) = head) := fun h1 => by
            have := hgr.out
            obtain ⟨m1, rfl⟩ : ∃ m1, gk = m1 + 1 := ⟨gk - 1, by omega⟩
            rw [Nat.add_mul] at this
            simp only [Nat.add_sub_cancel]
            omega
          have brk : Hid (∀ g' r', g' * lim v (n - 1) + r' = head → g' ≤ 4294967296 → 4294967296 ≤ r' → g' ≤ qt + 1) := fun g' r' a1 a2 a3 => by
            have := LL.out.up_break a1 a2 a3
            rwa [HQT.out] at this
          have up : Hid (gk ≤ 4294967295 → gk * lim v (n - 2) ≤ z → gk ≤ qt + 1) := fun a1 a2 => by
            have := LL.out.up hgr.out a1 (by rw [HZ.out]; exact a2)
            rwa [HQT.out] at this
          by_cases hbig : 4294967295 < gk
          · have hs := step.out (.inl hbig)
            obtain ⟨s1, s2⟩ := hs
            have hbg : decide ((gk : Int) > 4294967295) = true := by simp; omega
            by_cases hbr : 4294967295 < r + lim v (n - 1)
            · have hres := brk.out (gk - 1) (r + lim v (n - 1)) (stepeq.out s1) (by omega) (by omega)
              clear hmul
              go_wp2_with fail
              go_meet
              case rel => exact ⟨gk - 1, by go_num, s2, hres, by omega, ⟨_, rfl⟩⟩
            · clear hmul
              go_wp2_with fail
              go_roundg (gk - 1)
              case measure => omega
              case rel => exact ⟨r + lim v (n - 1), by go_num, by go_num, stepeq.out s1, by omega, s2, by omega, ⟨_, rfl⟩⟩
          · have hP2 : gk * lim v (n - 2) ≤ 18446744065119617025 := prod_le (by omega) hnx2
            generalize hP : gk * lim v (n - 2) = P at hmul step up hP2
            clear hP
            by_cases hcmp : z < P
            · have hs := step.out (.inr hcmp)
              obtain ⟨s1, s2⟩ := hs
              by_cases hbr : 4294967295 < r + lim v (n - 1)
              · have hres := brk.out (gk - 1) (r + lim v (n - 1)) (stepeq.out s1) (by omega) (by omega)
                go_wp2_with fail
                go_meet
                case rel => exact ⟨gk - 1, by go_num, s2, hres, by omega, ⟨_, rfl⟩⟩
              · go_wp2_with fail
                go_roundg (gk - 1)
                case measure => omega
                case rel => exact ⟨r + lim v (n - 1), by go_num, by go_num, stepeq.out s1, by omega, s2, by omega, ⟨_, rfl⟩⟩
            · have hres := up.out (by omega) (by omega)
              go_wp2_with fail
              go_meet
              case rel => exact ⟨gk, rfl, hqg, hres, by omega, ⟨_, rfl⟩⟩
      case rest =>
        obtain ⟨g, rfl, hqg, hgq, hgB, hwd⟩ := hcut
        obtain ⟨d, rfl⟩ := hwd.out
        clear hwd
        go_wp2_with fail
        -- the multiple is subtracted
        obtain ⟨wo, rfl⟩ : ∃ wo : World, wo = wr := ⟨_, rfl⟩
        clear hc0 hc1 hc2
        go_loopg [18, 19, 140] n (fun gk bw c t wx => ∃ (i b c0 : Nat) (Ui : List Nat), i ≤ n ∧ gk = n - i ∧ b ≤ 1 ∧ c0 < 4294967296 ∧ bw = .int .u32 (b : Int) ∧ c = .int .u64 (c0 : Int) ∧ t = .int .i64 (i : Int) ∧ Row32 wx gu Ui ∧ Row32 wx gq Q ∧ Row32 wx gv V ∧ Hid (MsRel U Ui v j i g c0 b) ∧ Below w.heap.size w wx)
        case atStart => exact ⟨0, 0, 0, U, Nat.zero_le _, rfl, by omega, by omega, rfl, rfl, rfl, HU.out.drewN d, HQ.out.drewN d, HV.out.drewN d, MsRel.start hUb, hbl.trans (below_drewN wo d _)⟩
        case round =>
          obtain ⟨i, b0, c0, Ui, hi, rfl, hb0, hc0b, rfl, rfl, rfl, hUi, hQi, hVi, hms, hbi⟩ := hrel
          have e1 := hms.out.1.trans hK.out.1
          have hUib := hms.out.2.1
          rcases Nat.lt_or_ge i n with hlt | hgei
          · have hcu := hUi.cell (i := j + i) (by omega)
            have hfu := hUi.frozen (j + i)
            have hcv : wr.cell? ⟨gv, i, none⟩ = some (.int .u32 ((lim v i : Nat) : Int)) := by rw [HVL.out i hlt]; exact hVi.cell (by rw [HVl.out]; omega)
            have hub := hUib.getD (j + i)
            have hvb2 := hvb.getD i
            have hgv1 : g * lim v i ≤ 4294967296 * 4294967295 := Nat.mul_le_mul hgB (by omega)
            have hmul : (g : Int) * ((lim v i : Nat) : Int) = ((g * lim v i : Nat) : Int) := by rw [Int.natCast_mul]
            have hlo : msLo c0 g (lim v i) = (c0 + g * lim v i) % 4294967296 := rfl
            have hhi : msHi c0 g (lim v i) = (c0 + g * lim v i) / 4294967296 := rfl
            have hnext := hms.out.step (by rw [HNV1.out]; exact hlt) (by rw [hK.out.1]; omega)
            have hcn := hnext.carry hvb hgB
            have hlolt := msLo_lt c0 g (lim v i)
            generalize hP : g * lim v i = P at hmul hgv1 hlo hhi
            have HLO := Lib.hid hlo
            have HHI := Lib.hid hhi
            have HNEXT := Lib.hid hnext
            have HUi := Lib.hid hUi
            clear hP hlo hhi hnext hUi e1
            have hlo' : ((msLo c0 g (lim v i) : Nat) : Int) = ((c0 : Int) + (P : Int)) % 4294967296 := by rw [HLO.out]; omega
            have hhi' : ((c0 : Int) + (P : Int)) / 4294967296 = ((msHi c0 g (lim v i) : Nat) : Int) := by rw [HHI.out]; omega
            have HLO' := Lib.hid hlo'
            clear hlo'
            go_wp2_with fail
            rw [← HLO'.out]
            refine (sub32_c _ _ _ hub hlolt hb0 _).mono ?_
            rintro e w' ⟨rfl, rfl⟩
            go_wp2_with fail
            go_roundg (n - (i + 1))
            case measure => omega
            case rel => exact ⟨i + 1, _, _, _, by omega, rfl, subHi_le _ _ _, hcn, rfl, rfl, by go_num, HUi.out.set _ _, hQi.far (p := ⟨gu, j + i, none⟩) (Ne.symm hguq) _, hVi.far (p := ⟨gu, j + i, none⟩) (Ne.symm hguv) _, HNEXT.out, hbi.setCell (by omega) _⟩
          · obtain rfl : i = n := by omega
            have hcu := hUi.cell (i := j + i) (by omega)
            have hfu := hUi.frozen (j + i)
            have hub := hUib.getD (j + i)
            have hlast := hms.out
            rw [← HNV1.out] at hlast
            have hl := hlast.last hc0b (by rw [hK.out.1, HNV1.out]; omega)
            rw [HNV1.out] at hl
            obtain ⟨l1, l2, l3, l4, l5⟩ := hl
            have hsb := subHi_le (lim Ui (j + i)) c0 b0
            have HUi := Lib.hid hUi
            have L1 := Lib.hid l1
            have L3 := Lib.hid l3
            have L4 := Lib.hid l4
            have L5 := Lib.hid l5
            have HQT2 : Hid (qt ≤ g ∧ g ≤ qt + 1) := ⟨hqg, hgq⟩
            have hrowq := hQi.frozen j
            have hcq := hQi.cell (i := j) (by rw [hK.out.2.1]; omega)
            clear hlast l1 l3 l4 l5 hUi e1
            rcases Nat.lt_or_ge 0 (subHi (lim Ui (j + i)) c0 b0) with hbor | hbor
            · have hb1' : subHi (lim Ui (j + i)) c0 b0 = 1 := by omega
              have hnz : (((subHi (lim Ui (j + i)) c0 b0 : Nat) : Int) != 0) = true := by rw [hb1']; rfl
              have hg1 : 1 ≤ g := by
                have := (borrow_one hvb hK.out.2.2.2.2.1 (by rw [hK.out.1, HNV1.out]; omega) hK.out.2.2.2.2.2.2 L1.out l2 hb1' (by rw [HNV1.out]; exact L3.out) L4.out (by rw [HNV1.out]; exact L5.out)).2.2
                rcases Nat.eq_zero_or_pos g with h0 | h0
                · rw [h0] at this; simp at this
                · exact h0
              have HB1 := Lib.hid hb1'
              clear hb1'
              go_wp2_with fail
              refine (sub32_c _ _ _ hub hc0b hb0 _).mono ?_
              rintro e w' ⟨rfl, rfl⟩
              have hrowU := HUi.out.set (j + i) (subLo (lim Ui (j + i)) c0 b0)
              have hrowQ := hQi.far (p := ⟨gu, j + i, none⟩) (Ne.symm hguq) (.int .u32 ((subLo (lim Ui (j + i)) c0 b0 : Nat) : Int))
              have hrowV := hVi.far (p := ⟨gu, j + i, none⟩) (Ne.symm hguv) (.int .u32 ((subLo (lim Ui (j + i)) c0 b0 : Nat) : Int))
              have hbel := hbi.setCell (p := ⟨gu, j + i, none⟩) (by omega) (.int .u32 ((subLo (lim Ui (j + i)) c0 b0 : Nat) : Int))
              obtain ⟨U1, hU1⟩ : ∃ U1, U1 = Ui.set (j + i) (subLo (lim Ui (j + i)) c0 b0) := ⟨_, rfl⟩
              rw [← hU1] at hrowU L1 L3 L4 L5 l2
              have R4 := Lib.hid hrowU
              have R5 := Lib.hid hrowQ
              have R6 := Lib.hid hrowV
              have R7 := Lib.hid hbel
              clear hU1 hrowU hrowQ hrowV hbel
              go_wp2_with fail
              clear hcu hfu hrowq hcq hQi hVi hbi
              go_loopg [22, 196] i (fun gk c t wx => ∃ (k c1 : Nat) (Uk : List Nat), k ≤ i ∧ gk = i - k ∧ c1 ≤ 1 ∧ c = .int .u32 (c1 : Int) ∧ t = .int .i64 (k : Int) ∧ Row32 wx gu Uk ∧ Row32 wx gq Q ∧ Row32 wx gv V ∧ Hid (AbRel U1 Uk v j k c1) ∧ Below w.heap.size w wx)
              case atStart => exact ⟨0, 0, U1, Nat.zero_le _, rfl, by omega, rfl, rfl, R4.out, R5.out, R6.out, AbRel.start l2, R7.out⟩
              case round =>
                obtain ⟨k, c1, Uk, hk, rfl, hc1, rfl, rfl, hUk, hQk, hVk, hab, hbk⟩ := hrel
                have e1 := hab.out.1.trans (L1.out.trans hK.out.1)
                have hUkb := hab.out.2.1
                rcases Nat.lt_or_ge k i with hlt | hgek
                · have hcu := hUk.cell (i := j + k) (by omega)
                  have hfu := hUk.frozen (j + k)
                  have hcv : wr.cell? ⟨gv, k, none⟩ = some (.int .u32 ((lim v k : Nat) : Int)) := by rw [HVL.out k hlt]; exact hVk.cell (by rw [HVl.out]; omega)
                  have hub := hUkb.getD (j + k)
                  have hvb2 := hvb.getD k
                  have hnext := hab.out.step hvb (by rw [L1.out, hK.out.1]; omega)
                  have HNEXT := Lib.hid hnext
                  have HUk := Lib.hid hUk
                  clear hnext hUk e1
                  go_wp2_with fail
                  refine (add32_c _ _ _ hub hvb2 hc1 _).mono ?_
                  rintro e w' ⟨rfl, rfl⟩
                  go_wp2_with fail
                  go_roundg (i - (k + 1))
                  case measure => omega
                  case rel => exact ⟨k + 1, _, _, by omega, rfl, addHi_le hub hvb2 hc1, rfl, by go_num, HUk.out.set _ _, hQk.far (p := ⟨gu, j + k, none⟩) (Ne.symm hguq) _, hVk.far (p := ⟨gu, j + k, none⟩) (Ne.symm hguv) _, HNEXT.out, hbk.setCell (by omega) _⟩
                · obtain rfl : k = i := by omega
                  have hcu := hUk.cell (i := j + k) (by omega)
                  have hfu := hUk.frozen (j + k)
                  have hub := hUkb.getD (j + k)
                  have hrowq := hQk.frozen j
                  have hcq := hQk.cell (i := j) (by rw [hK.out.2.1]; omega)
                  have hlast := hab.out
                  rw [← HNV1.out] at hlast
                  have hl := hlast.last (by rw [L1.out, hK.out.1, HNV1.out]; omega)
                  rw [HNV1.out] at hl
                  obtain ⟨m1, m2, m3, m4, m5⟩ := hl
                  have hKn := hK.out.2.2.back hvb (by rw [hK.out.1, HNV1.out]; omega) (by rw [hK.out.2.1]; omega) (by rw [HQT.out]; exact hgq) L1.out l2 HB1.out (by rw [HNV1.out]; exact L3.out) L4.out (by rw [HNV1.out]; exact L5.out)
                    m1 m2 (addHi_le (y := 0) hub (by omega) hc1) (by rw [HNV1.out]; exact m3) m4 (by rw [HNV1.out]; exact m5)
                  obtain ⟨hKn, _, hg32⟩ := hKn
                  have hsum : ((addLo (lim Uk (j + k)) 0 c1 : Nat) : Int) = (((lim Uk (j + k) : Nat) : Int) + (c1 : Int)) % 4294967296 := by unfold addLo; omega
                  have HKN := Lib.hid hKn
                  have M1 := Lib.hid m1
                  have HUk := Lib.hid hUk
                  have HSUM := Lib.hid hsum
                  clear hlast m1 m3 m4 m5 hKn hUk e1 hsum
                  go_wp2_with fail
                  go_roundg j
                  case measure => omega
                  case rel => exact ⟨_, _, by omega, by go_num, (HUk.out.set' _ _ HSUM.out.symm).far (p := ⟨gq, j, none⟩) hguq _, (hQk.far (p := ⟨gu, j + k, none⟩) (Ne.symm hguq) _).set' _ _ (by omega), (hVk.far (p := ⟨gu, j + k, none⟩) (Ne.symm hguv) _).far (p := ⟨gq, j, none⟩) hgvq _, ⟨M1.out.trans (L1.out.trans hK.out.1), by rw [List.length_set]; exact hK.out.2.1, HKN.out⟩, (hbk.setCell (by omega) _).setCell (by omega) _⟩
            · have hb0' : subHi (lim Ui (j + i)) c0 b0 = 0 := by omega
              have hnz : (((subHi (lim Ui (j + i)) c0 b0 : Nat) : Int) != 0) = false := by rw [hb0']; rfl
              have hKn := hK.out.2.2.plain hvb (by rw [hK.out.1, HNV1.out]; omega) (by rw [hK.out.2.1]; omega) (by rw [HQT.out]; exact hqg) L1.out l2 hb0' (by rw [HNV1.out]; exact L3.out) L4.out
              obtain ⟨hKn, hg32⟩ := hKn
              have HKN := Lib.hid hKn
              clear hb0' hKn
              go_wp2_with fail
              refine (sub32_c _ _ _ hub hc0b hb0 _).mono ?_
              rintro e w' ⟨rfl, rfl⟩
              go_wp2_with fail
              go_roundg j
              case measure => omega
              case rel => exact ⟨_, _, by omega, by go_num, (HUi.out.set _ _).far (p := ⟨gq, j, none⟩) hguq _, (hQi.far (p := ⟨gu, j + i, none⟩) (Ne.symm hguq) _).set _ _, (hVi.far (p := ⟨gu, j + i, none⟩) (Ne.symm hguv) _).far (p := ⟨gq, j, none⟩) hgvq _, ⟨L1.out.trans hK.out.1, by rw [List.length_set]; exact hK.out.2.1, HKN.out⟩, (hbi.setCell (by omega) _).setCell (by omega) _⟩

/-- divide: quotient and remainder, as numbers of their own. -/
theorem divide_c (w : World) (va vb : Value) (x y : Nat) (h : Sl w va (limbs x)) (k : Sl w vb (limbs y)) (hy : 0 < y) (ha : (limbs x).length ≤ 1000000) :
    Calls Try.prog 57 #[va, vb] w (RetDiv w (x / y) (x % y)) := by
  rcases Nat.lt_or_ge x y with hlt | hge
  · exact divide_less w va vb x y h k hlt ha
  · have h1 := limbs_len_pos hy
    rcases Nat.lt_or_ge (limbs y).length 2 with h2 | h2
    · exact divide_short w va vb x y h k hge (by omega) ha
    · exact divide_big w va vb x y h k hge h2 ha
end Go.Proofs.Ytebmegodeglobaa

namespace Go.Proofs.Ytebmegodeglobaa

/-- A fraction as it lies in memory: its sign, its numerator's limbs, its denominator's. -/
structure F where
  neg : Bool
  num : List Nat
  den : List Nat
/-- A fraction of two numbers. -/
def fr (neg : Bool) (n d : Nat) : F := ⟨neg, limbs n, limbs d⟩
/-- What is returned with an error. -/
def F0 : F := ⟨false, [], []⟩
theorem fr_zero : fr false 0 0 = F0 := by simp [fr, F0, limbs_zero]

/-- A sign, a numerator and a denominator of a valid fraction. -/
structure Ok (neg : Bool) (n d : Nat) : Prop where
  n32 : (limbs n).length ≤ 32
  d32 : (limbs d).length ≤ 32
  pos : 0 < d
  gcd : Nat.gcd n d = 1
  sign : n = 0 → neg = false
/-- Valid, as the chapter says it. -/
def ValidF (x : F) : Prop := Canon x.num ∧ Canon x.den ∧ Ok x.neg (val x.num) (val x.den)
theorem ValidF.eq {x : F} (h : ValidF x) : x = fr x.neg (val x.num) (val x.den) := by
  obtain ⟨neg, a, b⟩ := x
  obtain ⟨h1, h2, _⟩ := h
  unfold Canon at h1 h2
  simp only at h1 h2
  unfold fr
  simp only
  rw [← h1, ← h2]
theorem validF_fr {neg : Bool} {n d : Nat} : ValidF (fr neg n d) ↔ Ok neg n d := by
  unfold ValidF fr
  simp only [val_limbs]
  exact ⟨fun h => h.2.2, fun h => ⟨canon_limbs _, canon_limbs _, h⟩⟩
theorem Ok.lt {neg : Bool} {n d : Nat} (h : Ok neg n d) : n < 4294967296 ^ 32 ∧ d < 4294967296 ^ 32 :=
  ⟨Nat.lt_of_lt_of_le (lt_limbs n) (Nat.pow_le_pow_right (by omega) h.n32), Nat.lt_of_lt_of_le (lt_limbs d) (Nat.pow_le_pow_right (by omega) h.d32)⟩

/-- The fraction of a numerator and a denominator that is not 0, in lowest terms, and its error. -/
noncomputable def made (neg : Bool) (n d : Nat) : F × Int :=
  open Classical in
  if 32 < (limbs (n / Nat.gcd n d)).length ∨ 32 < (limbs (d / Nat.gcd n d)).length then (F0, 3)
  else (fr (neg && decide (0 < n / Nat.gcd n d)) (n / Nat.gcd n d) (d / Nat.gcd n d), 0)

theorem limbs_mul_len (a b : Nat) : (limbs (a * b)).length ≤ (limbs a).length + (limbs b).length := by
  apply limbs_len_lt
  rw [Nat.pow_add]
  exact Nat.mul_lt_mul'' (lt_limbs a) (lt_limbs b)
theorem limbs_add_len (a b : Nat) : (limbs (a + b)).length ≤ max (limbs a).length (limbs b).length + 1 := by
  apply limbs_len_lt
  rw [Nat.pow_succ]
  have h1 := Nat.lt_of_lt_of_le (lt_limbs a) (Nat.pow_le_pow_right (n := 4294967296) (by omega) (Nat.le_max_left (limbs a).length (limbs b).length))
  have h2 := Nat.lt_of_lt_of_le (lt_limbs b) (Nat.pow_le_pow_right (n := 4294967296) (by omega) (Nat.le_max_right (limbs a).length (limbs b).length))
  omega
end Go.Proofs.Ytebmegodeglobaa
