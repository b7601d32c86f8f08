/- The walk of TailsSeeks: the package's Critical and Upper answer as the reference's, for all numbers and fractions. -/
import Derived.Test.YtppehiajocgiiaaK21
import Derived.Test.YtppehiajocgiiaaK20
import Derived.Deep.DeepCutAuto
set_option linter.unusedVariables false
namespace Go.Proofs.Ytppehiajocgiiaa
open Go.RowKit

theorem VarF.of {w : World} {b : Nat} {x : F} {va vb : Value} (h : Box w b #[.bool x.neg, va, vb] 25) (k : IsF w (.agg #[.bool x.neg, va, vb]) x) : VarF w b x := by
  obtain ⟨_, h1, h2⟩ := k.parts
  exact ⟨va, vb, h, h1, h2⟩
/-- Whether there are too many trials. -/
def condN (n : Int) : Bool := decide (12 < n ∧ n ≤ 64)
/-- Fewer trials. -/
def seekN (n : Int) : Int := if condN n = true then 12 else n
theorem seekN_yes {n : Int} (h : condN n = true) : seekN n = 12 := by unfold seekN; rw [if_pos h]
theorem seekN_no {n : Int} (h : condN n = false) : seekN n = n := by unfold seekN; rw [if_neg (by simp [h])]
def condD (n den : Int) : Bool := decide (20 < den ∧ (den < 1000 ∨ (den = 1000 ∧ 2 < n)))
/-- Lesser denominators. -/
def seekD (n den : Int) : Int := if condD n den = true then 20 else den
theorem seekD_yes {n den : Int} (h : condD n den = true) : seekD n den = 20 := by unfold seekD; rw [if_pos h]
theorem seekD_no {n den : Int} (h : condD n den = false) : seekD n den = den := by unfold seekD; rw [if_neg (by simp [h])]

set_option maxRecDepth 100000 in
set_option maxHeartbeats 8000000 in
theorem seeks_walk (w : World) (n k den : Int) (v v' : Value) (x z : F) (h : IsFA w v x) (h' : IsFA w v' z) : Calls Try.prog 4 #[.int .i64 n, .int .i64 k, v, v', .int .i64 den] w fun e w' => e = .returned (.bool true) ∧ Below w.heap.size w w' := by
  have HX := h
  have HY := h'
  obtain ⟨va, vb, rfl, h1, h2⟩ := h
  obtain ⟨p, cp, rfl, _, _⟩ := h1.shape
  obtain ⟨q, cq, rfl, _, _⟩ := h2.shape
  obtain ⟨vc, vd, rfl, h3, h4⟩ := h'
  obtain ⟨p', cp', rfl, _, _⟩ := h3.shape
  obtain ⟨q', cq', rfl, _, _⟩ := h4.shape
  obtain ⟨W0, hW, bx, bz, hsz, hb0⟩ := start2 w #[.bool x.neg, .slice p x.num.length cp, .slice q x.den.length cq] #[.bool z.neg, .slice p' z.num.length cp', .slice q' z.den.length cq'] 25
  obtain ⟨c0, c1, c2⟩ := bx.cells3
  obtain ⟨e0, e1, e2⟩ := bz.cells3
  have H0 := Lib.hid (HX.after hb0)
  have H1 := Lib.hid (HY.after hb0)
  have HB := Lib.hid hb0
  have CP := Lib.hid bx
  have CC := Lib.hid bz
  obtain ⟨y, hy⟩ : ∃ y, cut34 x = y := ⟨_, rfl⟩
  have HY1 := Lib.hid hy
  obtain ⟨u, hu⟩ : ∃ u, cut34 z = u := ⟨_, rfl⟩
  have HU1 := Lib.hid hu
  clear HX HY bx bz hb0 h1 h2 h3 h4 hy hu
  go_enter Try.func4, Try.ntmps4
  go_upto_region 1 with fail
  rw [← hW]
  clear hW
  go_cut [24] (fun b wx => b = .bool (condN n) ∧ wx = W0)
  case first =>
    by_cases g1 : 12 < n
    · by_cases g2 : n ≤ 64
      · have hs : Hid (condN n = true) := by show _ = _; unfold condN; simp [g1, g2]
        go_wp2_with fail
        go_meet
        case rel => exact ⟨by rw [hs.out], rfl⟩
      · have hs : Hid (condN n = false) := by show _ = _; unfold condN; simp [g2]
        go_wp2_with fail
        go_meet
        case rel => exact ⟨by rw [hs.out], rfl⟩
    · have hs : Hid (condN n = false) := by show _ = _; unfold condN; simp [g1]
      go_wp2_with fail
      go_meet
      case rel => exact ⟨by rw [hs.out], rfl⟩
  case rest =>
    obtain ⟨rfl, hw⟩ := hcut
    obtain rfl := hw.symm
    go_upto_if 24 with fail
    go_cut [0] (fun b wx => b = .int .i64 (seekN n) ∧ wx = W0)
    case first =>
      cases hcn : condN n with
      | true =>
        have hs : Hid (seekN n = 12) := seekN_yes hcn
        clear hcn
        go_wp2_with fail
        go_meet
        case rel => exact ⟨by rw [hs.out], rfl⟩
      | false =>
        have hs : Hid (seekN n = n) := seekN_no hcn
        clear hcn
        go_wp2_with fail
        go_meet
        case rel => exact ⟨by rw [hs.out], rfl⟩
    case rest =>
      obtain ⟨rfl, hw⟩ := hcut
      obtain rfl := hw.symm
      obtain ⟨N, hN⟩ : ∃ N, seekN n = N := ⟨_, rfl⟩
      rw [hN]
      clear hN
      go_upto_region 3 with fail
      go_cut [38] (fun b wx => b = .bool (condD N den) ∧ wx = W0)
      case first =>
        by_cases g1 : 20 < den
        · by_cases g2 : den < 1000
          · have hs : Hid (condD N den = true) := by show _ = _; unfold condD; simp [g1, g2]
            go_wp2_with fail
            go_meet
            case rel => exact ⟨by rw [hs.out], rfl⟩
          · by_cases g3 : den = 1000
            · subst g3
              by_cases g4 : 2 < N
              · have hs : Hid (condD N 1000 = true) := by show _ = _; unfold condD; simp [g4]
                go_wp2_with fail
                go_meet
                case rel => exact ⟨by rw [hs.out], rfl⟩
              · have hs : Hid (condD N 1000 = false) := by show _ = _; unfold condD; simp [g4]
                go_wp2_with fail
                go_meet
                case rel => exact ⟨by rw [hs.out], rfl⟩
            · have hs : Hid (condD N den = false) := by show _ = _; unfold condD; simp [g2, g3]
              go_wp2_with fail
              go_meet
              case rel => exact ⟨by rw [hs.out], rfl⟩
        · have hs : Hid (condD N den = false) := by show _ = _; unfold condD; simp [g1]
          go_wp2_with fail
          go_meet
          case rel => exact ⟨by rw [hs.out], rfl⟩
      case rest =>
        obtain ⟨rfl, hw⟩ := hcut
        obtain rfl := hw.symm
        go_upto_if 38 with fail
        go_cut [4] (fun b wx => b = .int .i64 (seekD N den) ∧ wx = W0)
        case first =>
          cases hcn : condD N den with
          | true =>
            have hs : Hid (seekD N den = 20) := seekD_yes hcn
            clear hcn
            go_wp2_with fail
            go_meet
            case rel => exact ⟨by rw [hs.out], rfl⟩
          | false =>
            have hs : Hid (seekD N den = den) := seekD_no hcn
            clear hcn
            go_wp2_with fail
            go_meet
            case rel => exact ⟨by rw [hs.out], rfl⟩
        case rest =>
          obtain ⟨rfl, hw⟩ := hcut
          obtain rfl := hw.symm
          obtain ⟨D, hD⟩ : ∃ D, seekD N den = D := ⟨_, rfl⟩
          rw [hD]
          clear hD
          go_upto_region 5 with fail
          go_cut [10] (fun b wx => b = .bool false ∧ Hid (VarF wx w.heap.size y) ∧ Hid (VarF wx (w.heap.size + 1) u) ∧ Hid (Below w.heap.size w wx))
          case first =>
            go_region_with (first
              | (go_at_call_of 11 p; refine (own_a _ _ x ?_).mono ?_; exact H0.out.after (below_dr (Below.refl _ W0)); rw [HY1.out]; rintro e w1 ⟨v, rfl, hv, hb⟩; have hb1 := below_of_drew hb; obtain ⟨va, vb, rfl, h1, h2⟩ := hv; obtain ⟨pP, mP, rfl, _, _⟩ := h1.shape; obtain ⟨qP, nP, rfl, _, _⟩ := h2.shape; have FP := Lib.hid (IsF.at_ h1 h2); clear h1 h2 hb; obtain ⟨e0, e1, e2⟩ := (CC.out.after hb1).cells3)
              | (go_at_call_of 11 p'; refine (own_a _ _ z ?_).mono ?_; exact H1.out.after hb1; rw [HU1.out]; rintro e w2 ⟨v, rfl, hv, hb2⟩; have hb02 := hb1.trans (hb2.mono hb1.size); obtain ⟨va, vb, rfl, h1, h2⟩ := hv; obtain ⟨pC, mC, rfl, _, _⟩ := h1.shape; obtain ⟨qC, nC, rfl, _, _⟩ := h2.shape; have FC := Lib.hid (IsF.at_ h1 h2); clear h1 h2; have FP2 := Lib.hid (FP.out.after hb2); have CP2 := Lib.hid (CP.out.after hb02); have CC2 := Lib.hid (CC.out.after hb02); obtain ⟨r0, r1, r2⟩ := CP2.out.cells3; have f0 := CP2.out.frozen 0; have f1 := CP2.out.frozen 1; have f2 := CP2.out.frozen 2; have lt1 := CP2.out.lt; obtain ⟨s0, s1, s2⟩ := CC2.out.cells3; have k0 := CC2.out.frozen 0; have k1 := CC2.out.frozen 1; have k2 := CC2.out.frozen 2; have lt2 := CC2.out.lt)
              | (fail))
            all_goals
              (have HB2 := Lib.hid (HB.out.trans (hb02.mono HB.out.size))
               clear CP CC HB FP hb02 hb1 hb2
               have CP := CP2
               have CC := CC2
               have HB := HB2
               have FP := FP2
               clear CP2 CC2 HB2 FP2
               obtain ⟨wa, hw⟩ : ∃ wa, wa = ((w2.setCell ⟨w.heap.size, 0, none⟩ (.bool (y).neg)).setCell ⟨w.heap.size, 1, none⟩ (.slice pP (y).num.length mP)).setCell ⟨w.heap.size, 2, none⟩ (.slice qP (y).den.length nP) := ⟨_, rfl⟩
               have hb := below_same hw
               rw [← hw]
               clear hw
               obtain ⟨KB, KS, KW, NC⟩ := after_set CP.out (fun _ h => by cases h) (fun _ h => by cases h) (fun _ h => by cases h) hb
               replace CC := Lib.hid (KB _ _ _ (by omega) CC.out)
               replace CP := Lib.hid NC
               replace FP := Lib.hid (FP.out.via KS)
               replace FC := Lib.hid (FC.out.via KS)
               replace HB := Lib.hid (KW _ _ HB.out (by omega))
               clear KB KS KW NC hb
               obtain ⟨wb, hw⟩ : ∃ wb, wb = ((wa.setCell ⟨w.heap.size + 1, 0, none⟩ (.bool (u).neg)).setCell ⟨w.heap.size + 1, 1, none⟩ (.slice pC (u).num.length mC)).setCell ⟨w.heap.size + 1, 2, none⟩ (.slice qC (u).den.length nC) := ⟨_, rfl⟩
               have hb := below_same hw
               rw [← hw]
               clear hw
               obtain ⟨KB, KS, KW, NC⟩ := after_set CC.out (fun _ h => by cases h) (fun _ h => by cases h) (fun _ h => by cases h) hb
               replace CP := Lib.hid (KB _ _ _ (by omega) CP.out)
               replace CC := Lib.hid NC
               replace FP := Lib.hid (FP.out.via KS)
               replace FC := Lib.hid (FC.out.via KS)
               replace HB := Lib.hid (KW _ _ HB.out (by omega))
               clear KB KS KW NC hb
               go_wp2_with fail
               go_meet
               case rel => exact ⟨rfl, VarF.of CP.out FP.out, VarF.of CC.out FC.out, HB.out⟩)
          case rest =>
            obtain ⟨rfl, hvP, hvC, hbc⟩ := hcut
            clear HB CP CC
            have HB := hbc
            clear hbc
            obtain ⟨va, vb, hbx, h1, h2⟩ := hvP.out
            obtain ⟨pP, mP, rfl, _, _⟩ := h1.shape
            obtain ⟨qP, nP, rfl, _, _⟩ := h2.shape
            have CP := Lib.hid hbx
            have FP := Lib.hid (IsF.at_ h1 h2)
            clear hbx h1 h2
            obtain ⟨va, vb, hbx, h1, h2⟩ := hvC.out
            obtain ⟨pC, mC, rfl, _, _⟩ := h1.shape
            obtain ⟨qC, nC, rfl, _, _⟩ := h2.shape
            have CC := Lib.hid hbx
            have FC := Lib.hid (IsF.at_ h1 h2)
            clear hbx h1 h2
            clear hvP hvC
            have d_P_C : w.heap.size < w.heap.size + 1 := Nat.lt_succ_self _
            obtain ⟨cP0, cP1, cP2⟩ := CP.out.cells3
            have ltP := CP.out.lt
            obtain ⟨cC0, cC1, cC2⟩ := CC.out.cells3
            have ltC := CC.out.lt
            go_wp2_with fail
            refine (tCritical_c _ N _ _ y u FP.out FC.out).mono ?_
            rintro e w11 ⟨ra, rfl, hra, hb11⟩
            clear cP0 cP1 cP2 ltP cC0 cC1 cC2 ltC
            replace CP := Lib.hid (CP.out.after hb11)
            replace CC := Lib.hid (CC.out.after hb11)
            replace FP := Lib.hid (FP.out.after hb11)
            replace FC := Lib.hid (FC.out.after hb11)
            replace HB := Lib.hid (HB.out.trans (hb11.mono HB.out.size))
            clear hb11
            obtain ⟨cP0, cP1, cP2⟩ := CP.out.cells3
            have ltP := CP.out.lt
            obtain ⟨cC0, cC1, cC2⟩ := CC.out.cells3
            have ltC := CC.out.lt
            go_wp2_with fail
            refine (rCritical_c _ N _ _ y u FP.out FC.out).mono ?_
            rintro e w12 ⟨rb, rfl, hrb, hb12⟩
            clear cP0 cP1 cP2 ltP cC0 cC1 cC2 ltC
            replace CP := Lib.hid (CP.out.after hb12)
            replace CC := Lib.hid (CC.out.after hb12)
            replace FP := Lib.hid (FP.out.after hb12)
            replace FC := Lib.hid (FC.out.after hb12)
            replace HB := Lib.hid (HB.out.trans (hb12.mono HB.out.size))
            clear hb12
            obtain rfl := critF_uniq hra hrb
            clear hrb
            obtain ⟨cP0, cP1, cP2⟩ := CP.out.cells3
            have ltP := CP.out.lt
            obtain ⟨cC0, cC1, cC2⟩ := CC.out.cells3
            have ltC := CC.out.lt
            go_wp2_with fail
            refine (tUpper_c _ N k D _ _ FC.out).mono ?_
            rintro e w13 ⟨rc, rfl, hrc, hb13⟩
            clear cP0 cP1 cP2 ltP cC0 cC1 cC2 ltC
            replace CP := Lib.hid (CP.out.after hb13)
            replace CC := Lib.hid (CC.out.after hb13)
            replace FP := Lib.hid (FP.out.after hb13)
            replace FC := Lib.hid (FC.out.after hb13)
            replace HB := Lib.hid (HB.out.trans (hb13.mono HB.out.size))
            clear hb13
            obtain ⟨cP0, cP1, cP2⟩ := CP.out.cells3
            have ltP := CP.out.lt
            obtain ⟨cC0, cC1, cC2⟩ := CC.out.cells3
            have ltC := CC.out.lt
            go_wp2_with fail
            refine (rUpper_c _ N k D _ _ FC.out).mono ?_
            rintro e w14 ⟨rd, rfl, hrd, hb14⟩
            clear cP0 cP1 cP2 ltP cC0 cC1 cC2 ltC
            replace CP := Lib.hid (CP.out.after hb14)
            replace CC := Lib.hid (CC.out.after hb14)
            replace FP := Lib.hid (FP.out.after hb14)
            replace FC := Lib.hid (FC.out.after hb14)
            replace HB := Lib.hid (HB.out.trans (hb14.mono HB.out.size))
            clear hb14
            obtain rfl := upperF_uniq hrc hrd
            clear hrd
            clear hra hrc
            obtain ⟨cP0, cP1, cP2⟩ := CP.out.cells3
            have ltP := CP.out.lt
            obtain ⟨cC0, cC1, cC2⟩ := CC.out.cells3
            have ltC := CC.out.lt
            go_wp2_with fail
            refine (works_c _).mono ?_
            rintro e w15 ⟨rfl, hb15⟩
            clear cP0 cP1 cP2 ltP cC0 cC1 cC2 ltC
            replace CP := Lib.hid (CP.out.after hb15)
            replace CC := Lib.hid (CC.out.after hb15)
            replace FP := Lib.hid (FP.out.after hb15)
            replace FC := Lib.hid (FC.out.after hb15)
            replace HB := Lib.hid (HB.out.trans (hb15.mono HB.out.size))
            clear hb15
            go_wp2_with fail
            go_ret
            exact ⟨rfl, HB.out⟩
end Go.Proofs.Ytppehiajocgiiaa
