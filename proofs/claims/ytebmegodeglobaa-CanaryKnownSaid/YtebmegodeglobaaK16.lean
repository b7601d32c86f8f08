/- Walks of the reference: Quotient, Gcd.
   Walks of the reference: Gcd.
   Walks of the reference: Valid, Same, Made, Of.
   Walks of the reference: Same, Made, size, Of.
   Walks of the reference: Of.
   Walks of the reference's tails: trials, power, Between, Bound, Rate.
   Walks of the reference's tails: Between, Bound, Rate.
   Walks of the reference's tails: Rate. -/
import Derived.Test.YtebmegodeglobaaK15
import Derived.Deep.DeepCutAuto
import Derived.Deep.CutBlock
import Derived.Test.YtebmegodeglobaaK06
import Derived.Test.YtebmegodeglobaaK07
import Derived.Test.YtebmegodeglobaaK10
set_option linter.unusedVariables false
namespace Go.Proofs.Ytebmegodeglobaa
open Go.RowKit

theorem le_two_pow {B i A : Nat} (hB : 0 < B) (h : i + bl B ≤ bl A) : B * 2 ^ i ≤ 2 * A := by
  have h1 := lt_bl B
  rcases Nat.eq_zero_or_pos A with h0 | h0
  · subst h0; rw [bl_zero] at h
    have := bl_pos hB
    omega
  · have h2 := bl_le h0
    have h3 := Nat.pow_le_pow_right (n := 2) (by omega) h
    rw [Nat.pow_add, Nat.mul_comm] at h3
    have : B * 2 ^ i ≤ 2 ^ bl B * 2 ^ i := Nat.mul_le_mul_right _ (by omega)
    omega
theorem QRel.bsize {A B : Nat} {z : Int} {q a b : Nat} (h : QRel A B z q a b) (hB : 0 < B) (hz : 0 ≤ z) (hle : z ≤ (bl A : Int) - bl B) : b ≤ 2 * A := by
  obtain ⟨h1, _⟩ := h.2 hz
  rw [h1]
  exact le_two_pow hB (by omega)
theorem CmpS.ge {m n : Nat} {r : Int} (h : CmpS (limbs m) (limbs n) r) : 0 ≤ r ↔ n ≤ m := by
  obtain ⟨h1, h2, h3⟩ := h
  rcases Nat.lt_trichotomy (limbs m).length (limbs n).length with hl | hl | hl
  · have := h1 hl
    constructor
    · intro h; omega
    · intro h; have := limbs_len_mono h; omega
  · have := h3 hl
    rw [val_limbs, val_limbs] at this
    rcases this with ⟨a, b⟩ | ⟨a, b⟩ | ⟨a, b⟩
    · omega
    · have := limbs_inj a; omega
    · omega
  · have := h2 hl
    constructor
    · intro h
      rcases Nat.lt_or_ge m n with hlt | hge
      · have := limbs_len_mono (Nat.le_of_lt hlt); omega
      · exact hge
    · intro h; omega

set_option maxRecDepth 100000 in
set_option maxHeartbeats 4000000 in
theorem Quotient_c (w : World) (va vb : Value) (x y : Nat) (h : Sl w va (limbs x)) (k : Sl w vb (limbs y)) (hy : 0 < y) (ha : (limbs x).length ≤ 400000) (hb : (limbs y).length ≤ 400000) :
    Calls Try.prog 46 #[va, vb] w (RetDiv w (x / y) (x % y)) := by
  obtain ⟨p, cp, rfl, hp1, hp2⟩ := h.shape
  obtain ⟨q, cq, rfl, hq1, hq2⟩ := k.shape
  have hbx := bl_len x
  have hby := bl_len y
  have hlen : Hid (∀ m, m ≤ 2 * x → (limbs m).length ≤ 800000) := fun m hm => by
    have h1 := limbs_len_mono hm
    have h2 := limbs_add_len x x
    rw [← Nat.two_mul] at h2
    omega
  have HS := Lib.hid h
  have KS := Lib.hid k
  clear h k
  go_enter Try.func46, Try.ntmps46
  go_wp2_with fail
  refine (bits_c _ _ _ HS.out (by omega)).mono ?_
  rintro e w1 ⟨rfl, n1, rfl⟩
  go_wp2_with fail
  refine (bits_c _ _ _ (KS.out.drewN n1) (by omega)).mono ?_
  rintro e w2 ⟨rfl, n2, rfl⟩
  have HS2 := Lib.hid ((HS.out.drewN n1).drewN n2)
  have KS2 := Lib.hid ((KS.out.drewN n1).drewN n2)
  have HB := Lib.hid ((below_drewN w n1 w.heap.size).trans (below_drewN (w.drewN n1) n2 w.heap.size))
  clear HS KS
  generalize (w.drewN n1).drewN n2 = w2 at *
  obtain ⟨s, hs⟩ : ∃ s : Int, s = (bl x : Int) - bl y := ⟨_, rfl⟩
  have hsb1 : s ≤ 12800000 := by omega
  have hsb2 : -12800000 ≤ s := by omega
  have HSE := Lib.hid hs
  clear hs
  go_wp2
  rw [← HSE.out]
  clear hbx hby
  go_loopg [1, 8] s.toNat (fun g b t wx => ∃ (i B : Nat) (p : Option Addr) (cp : Nat), g + i = s.toNat ∧ b = .slice p (limbs B).length cp ∧ t = .int .i64 (i : Int) ∧ Hid (B = y * 2 ^ i) ∧ Hid (Sl wx (.slice p (limbs B).length cp) (limbs B)) ∧ Below w2.heap.size w2 wx)
  case atStart => exact ⟨0, y, q, cq, by omega, rfl, rfl, by rw [Nat.pow_zero, Nat.mul_one]; rfl, KS2.out, Below.refl _ w2⟩
  case round =>
    obtain ⟨i, B, p1, cp1, hgi, rfl, rfl, hB, hsl, hbl⟩ := hrel
    by_cases hlt : (i : Int) < s
    · have hB2 : Hid (B ≤ 2 * x) := by
        have := le_two_pow (B := y) (i := i) (A := x) hy (by have := HSE.out; omega)
        show B ≤ _; rw [hB.out]; exact this
      obtain ⟨p3, cp3, _, _, hp5⟩ := hsl.out.shape
      have hl5 := hlen.out B hB2.out
      have hsl' := hsl
      go_wp2_with fail
      refine (double_c _ _ B false hsl.out (by omega)).mono ?_
      rintro e w3 ⟨v3, rfl, hv3, hb3⟩
      simp only [Bool.toNat_false, Nat.add_zero] at hv3
      obtain ⟨p4, cp4, rfl, hp6, hp7⟩ := hv3.shape
      have HV := Lib.hid hv3
      have hbn := hbl.trans (hb3.mono hbl.size)
      clear hv3 hb3
      go_wp2_with fail
      go_roundg (s.toNat - (i + 1))
      case measure => omega
      case rel => exact ⟨i + 1, 2 * B, p4, cp4, by omega, rfl, by go_num, by show _ = _; rw [hB.out, Nat.pow_succ]; grind, HV.out, hbn⟩
    · have hq := Lib.hid (QRel.start (A := x) (B := y) (b := B) (i := i) (s := s) hy HSE.out (by omega) (by omega) hB.out)
      have HSL := Lib.hid hsl.out
      have HX := Lib.hid (HS2.out.after hbl)
      have HBL := Lib.hid hbl
      clear hsl hB hgi
      obtain ⟨wo, rfl⟩ : ∃ wo : World, wo = wr := ⟨_, rfl⟩
      clear hbl
      go_wp2
      go_loopg [0, 1, 6, 9] (s + 1).toNat (fun g va vb vq t wx => ∃ (z : Int) (Q a b : Nat) (p1 p2 p3 : Option Addr) (c1 c2 c3 : Nat), -12800000 ≤ z ∧ z ≤ s ∧ g = (z + 1).toNat ∧ t = .int .i64 z ∧ va = .slice p1 (limbs a).length c1 ∧ vb = .slice p2 (limbs b).length c2 ∧ vq = .slice p3 (limbs Q).length c3 ∧
        Hid (Sl wx (.slice p1 (limbs a).length c1) (limbs a)) ∧ Hid (Sl wx (.slice p2 (limbs b).length c2) (limbs b)) ∧ Hid (Sl wx (.slice p3 (limbs Q).length c3) (limbs Q)) ∧ Hid (QRel x y z Q a b) ∧ Below w2.heap.size w2 wx)
      case atStart => exact ⟨s, 0, x, B, p, p1, none, cp, cp1, 0, hsb2, by omega, rfl, rfl, rfl, rfl, by simp [limbs_zero], HX.out, HSL.out, by rw [limbs_zero]; exact Sl.nil _, hq.out, HBL.out⟩
      case round =>
        obtain ⟨z, Q, a, b, p1, p2, p3, c1, c2, c3, hz1, hz2, rfl, rfl, rfl, rfl, rfl, h1, h2, h3, hr, hbl⟩ := hrel
        clear HX HSL HBL hq
        have hsz := hr.out.size hy
        have ha1 := limbs_len_mono hsz.2
        have hq1 := limbs_len_mono hsz.1
        rcases Int.lt_or_le z 0 with hz | hz
        · have hd := Lib.hid (hr.out.done hz)
          go_wp2_with fail
          go_ret2
          exact ⟨_, _, rfl, by rw [← hd.out.1]; exact h3.out, by rw [← hd.out.2]; exact h1.out, HB.out.trans (hbl.mono HB.out.size)⟩
        · have hb1 := hlen.out b (hr.out.bsize hy hz (by rw [← HSE.out]; exact hz2))
          have hQ9 : (limbs Q).length ≤ 900000 := Nat.le_trans hq1 (Nat.le_trans ha (by decide))
          have hb9 : (limbs b).length ≤ 1000000 := Nat.le_trans hb1 (by decide)
          have ha9 : (limbs a).length ≤ 1000000 := Nat.le_trans ha1 (Nat.le_trans ha (by decide))
          have hme : Hid ((z - 1 + 1).toNat < (z + 1).toNat) := by show _ < _; omega
          have hzz1 : Hid (-12800000 ≤ z - 1) := by show _ ≤ _; omega
          have hzz2 : Hid (z - 1 ≤ s) := by show _ ≤ _; omega
          obtain ⟨_, _, _, hx1, hx2⟩ := h1.out.shape
          obtain ⟨_, _, _, hx3, hx4⟩ := h2.out.shape
          obtain ⟨_, _, _, hx5, hx6⟩ := h3.out.shape
          clear hsz
          go_wp2_with fail
          refine (Compare_c _ _ _ _ _ h1.out h2.out).mono ?_
          rintro e w3 ⟨r, rfl, hcr, n3, rfl⟩
          have hge := Lib.hid hcr.ge
          clear hcr
          have h1d := Lib.hid (h1.out.drewN n3)
          have h2d := Lib.hid (h2.out.drewN n3)
          have h3d := Lib.hid (h3.out.drewN n3)
          have hbd := Lib.hid (hbl.trans (below_drewN wr n3 _))
          clear h1 h2 h3 hbl
          generalize wr.drewN n3 = w3 at *
          rcases Int.lt_or_le r 0 with hr0 | hr0
          · have hdec : decide (0 ≤ r) = false := decide_eq_false (Int.not_le.2 hr0)
            have hnext := Lib.hid (hr.out.no hz (Nat.not_le.1 (fun hh => absurd (hge.out.2 hh) (Int.not_le.2 hr0))))
            go_wp2_with fail
            refine (double_c _ _ Q false h3d.out hQ9).mono ?_
            rintro e w4 ⟨v4, rfl, hv4, hb4⟩
            simp only [Bool.toNat_false, Nat.add_zero] at hv4
            obtain ⟨p4, cp4, rfl, hp6, hp7⟩ := hv4.shape
            have HV := Lib.hid hv4
            have h1e := Lib.hid (h1d.out.after hb4)
            have h2e := Lib.hid (h2d.out.after hb4)
            have hbe := Lib.hid (hbd.out.trans (hb4.mono hbd.out.size))
            clear hv4 hb4 h1d h2d h3d hbd
            go_wp2_with fail
            refine (half_c _ _ b h2e.out hb9).mono ?_
            rintro e w5 ⟨v5, rfl, hv5, hb5⟩
            obtain ⟨p5, cp5, rfl, hp8, hp9⟩ := hv5.shape
            have HV5 := Lib.hid hv5
            have h1f := Lib.hid (h1e.out.after hb5)
            have hqf := Lib.hid (HV.out.after hb5)
            have hbf := Lib.hid (hbe.out.trans (hb5.mono hbe.out.size))
            clear hv5 hb5 h1e h2e HV hbe
            go_wp2_with fail
            go_roundg ((z - 1) + 1).toNat
            case measure => exact hme.out
            case rel => exact ⟨z - 1, 2 * Q, a, b / 2, p1, p5, p4, c1, cp5, cp4, hzz1.out, hzz2.out, rfl, by go_num, rfl, rfl, rfl, h1f.out, HV5.out, hqf.out, hnext.out, hbf.out⟩
          · have hdec : decide (0 ≤ r) = true := decide_eq_true hr0
            have hba := Lib.hid (hge.out.1 hr0)
            have hnext := Lib.hid (hr.out.yes hz hba.out)
            have hlen2 := limbs_len_mono hba.out
            go_wp2_with fail
            refine (Diff_c _ _ _ _ _ h1d.out h2d.out hlen2 (by rw [val_limbs, val_limbs]; exact hba.out) ha9).mono ?_
            rw [val_limbs, val_limbs]
            rintro e w4 ⟨v4, rfl, hv4, hb4⟩
            obtain ⟨p4, cp4, rfl, hp6, hp7⟩ := hv4.shape
            have HV := Lib.hid hv4
            have h2e := Lib.hid (h2d.out.after hb4)
            have h3e := Lib.hid (h3d.out.after hb4)
            have hbe := Lib.hid (hbd.out.trans (hb4.mono hbd.out.size))
            clear hv4 hb4 h1d h2d h3d hbd
            go_wp2_with fail
            refine (double_c _ _ Q true h3e.out hQ9).mono ?_
            rintro e w5 ⟨v5, rfl, hv5, hb5⟩
            simp only [Bool.toNat_true] at hv5
            obtain ⟨p5, cp5, rfl, hp8, hp9⟩ := hv5.shape
            have HV5 := Lib.hid hv5
            have h1f := Lib.hid (HV.out.after hb5)
            have h2f := Lib.hid (h2e.out.after hb5)
            have hbf := Lib.hid (hbe.out.trans (hb5.mono hbe.out.size))
            clear hv5 hb5 HV h2e h3e hbe
            go_wp2_with fail
            refine (half_c _ _ b h2f.out hb9).mono ?_
            rintro e w6 ⟨v6, rfl, hv6, hb6⟩
            obtain ⟨p6, cp6, rfl, hp10, hp11⟩ := hv6.shape
            have HV6 := Lib.hid hv6
            have h1g := Lib.hid (h1f.out.after hb6)
            have hqg := Lib.hid (HV5.out.after hb6)
            have hbg := Lib.hid (hbf.out.trans (hb6.mono hbf.out.size))
            clear hv6 hb6 h1f h2f HV5 hbf
            go_wp2_with fail
            go_roundg ((z - 1) + 1).toNat
            case measure => exact hme.out
            case rel => exact ⟨z - 1, 2 * Q + 1, a - b, b / 2, p4, p6, p5, cp4, cp6, cp5, hzz1.out, hzz2.out, rfl, by go_num, rfl, rfl, rfl, h1g.out, HV6.out, hqg.out, hnext.out, hbg.out⟩
end Go.Proofs.Ytebmegodeglobaa

namespace Go.Proofs.Ytebmegodeglobaa
open Go.RowKit

set_option maxRecDepth 100000 in
set_option maxHeartbeats 1000000 in
theorem Gcd_c (w : World) (va vb : Value) (x y : Nat) (h : Sl w va (limbs x)) (k : Sl w vb (limbs y)) (ha : (limbs x).length ≤ 400000) (hb : (limbs y).length ≤ 400000) :
    Calls Try.prog 45 #[va, vb] w (RetNat w (Nat.gcd x y)) := by
  obtain ⟨p, cp, rfl, hp1, hp2⟩ := h.shape
  obtain ⟨q, cq, rfl, hq1, hq2⟩ := k.shape
  have HS := Lib.hid h
  have KS := Lib.hid k
  clear h k
  go_enter Try.func45, Try.ntmps45
  go_wp2
  go_loopg [0, 1] y (fun g a b wx => ∃ (X : Nat) (p q : Option Addr) (cp cq : Nat), a = .slice p (limbs X).length cp ∧ b = .slice q (limbs g).length cq ∧ Hid (Sl wx (.slice p (limbs X).length cp) (limbs X)) ∧ Hid (Sl wx (.slice q (limbs g).length cq) (limbs g)) ∧
    (limbs X).length ≤ 400000 ∧ (limbs g).length ≤ 400000 ∧ Hid (Nat.gcd x y = Nat.gcd X g) ∧ Below w.heap.size w wx)
  case atStart => exact ⟨x, p, q, cp, cq, rfl, rfl, HS.out, KS.out, ha, hb, rfl, Below.refl _ w⟩
  case round =>
    obtain ⟨X, p', q', cp', cq', rfl, rfl, h1, h2, h3, h4, hg, hbl⟩ := hrel
    clear HS KS
    rcases Nat.eq_zero_or_pos gk with hz | hpos
    · subst hz
      have e0 : (limbs 0).length = 0 := by rw [limbs_zero]; rfl
      go_wp2_with fail
      go_ret
      refine ⟨_, rfl, ?_, hbl⟩
      rw [hg.out, Nat.gcd_zero_right]
      exact h1.out
    · have hl := limbs_len_pos hpos
      go_wp2_with fail
      refine (Quotient_c _ _ _ X gk h1.out h2.out hpos h3 h4).mono ?_
      rintro e w1 ⟨v, u, rfl, hv, hu, hb1⟩
      obtain ⟨p2, cp2, rfl, hp3, hp4⟩ := hu.shape
      have h2' := h2.out.after hb1
      have hm : X % gk < gk := Nat.mod_lt _ hpos
      have hml := limbs_len_mono (Nat.le_of_lt hm)
      have HU := Lib.hid hu
      have H2 := Lib.hid h2'
      generalize hmm : X % gk = mm at *
      have HMM := Lib.hid hmm
      have hbb := hbl.size
      have hbn := hbl.trans (hb1.mono hbb)
      clear hv hu h2' hmm
      go_wp2_with fail
      go_roundg mm
      case measure => exact hm
      case rel => exact ⟨gk, q', p2, cq', cp2, rfl, rfl, H2.out, HU.out, h4, by omega, by rw [hg.out, ← HMM.out]; exact (Nat.gcd_comm X gk).trans ((Nat.gcd_rec gk X).trans (Nat.gcd_comm _ _)), hbn⟩

theorem Gcd_l (w : World) (va vb : Value) (A B : List Nat) (h : Sl w va A) (k : Sl w vb B) (ca : Canon A) (cb : Canon B) (ha : A.length ≤ 400000) (hb : B.length ≤ 400000) :
    Calls Try.prog 45 #[va, vb] w (RetNat w (Nat.gcd (val A) (val B))) := by
  unfold Canon at ca cb
  refine Gcd_c w va vb (val A) (val B) (by rw [← ca]; exact h) (by rw [← cb]; exact k) (by rw [← ca]; exact ha) (by rw [← cb]; exact hb)

end Go.Proofs.Ytebmegodeglobaa

namespace Go.Proofs.Ytebmegodeglobaa
open Go.RowKit

end Go.Proofs.Ytebmegodeglobaa

namespace Go.Proofs.Ytebmegodeglobaa
open Go.RowKit

set_option maxRecDepth 100000 in
set_option maxHeartbeats 1000000 in
theorem Same_c (w : World) (v u : Value) (x y : F) (h : IsF w v x) (k : IsF w u y) : Calls Try.prog 13 #[v, u] w (RetC w (x = y)) := by
  have HX := h
  have HY := k
  obtain ⟨va, vb, rfl, h1, h2⟩ := h
  obtain ⟨vc, vd, rfl, k1, k2⟩ := k
  obtain ⟨n1, A, B⟩ := x
  obtain ⟨n2, C, D⟩ := y
  obtain ⟨W0, hW, bx, by', hsz, hb0⟩ := start2 w #[.bool n1, va, vb] #[.bool n2, vc, vd] 26
  obtain ⟨c0, c1, c2⟩ := bx.cells3
  obtain ⟨d0, d1, d2⟩ := by'.cells3
  simp only at h1 h2 k1 k2
  have H1 := Lib.hid (h1.after hb0)
  have H2 := Lib.hid (h2.after hb0)
  have K1 := Lib.hid (k1.after hb0)
  have K2 := Lib.hid (k2.after hb0)
  have HB0 := Lib.hid hb0
  clear HX HY bx by' hb0 h1 h2 k1 k2
  by_cases hn : n1 = n2
  · subst hn
    by_cases hac : A = C
    · have hac' := Lib.hid hac
      clear hac
      go_enter Try.func13, Try.ntmps13
      go_upto_region 1 with fail
      rw [← hW]
      clear hW
      cases n1 with
      | true =>
        go_wp2_with fail
        refine (SameNat_c _ _ _ _ _ H1.out K1.out).mono ?_
        intro e w' hr
        obtain ⟨rfl, n, rfl⟩ := hr.yes hac'.out
        clear hr
        go_wp2_with fail
        refine (SameNat_c _ _ _ _ _ (H2.out.drewN n) (K2.out.drewN n)).mono ?_
        rintro e w' ⟨r, rfl, hr, n3, rfl⟩
        have HR := Lib.hid hr
        clear hr
        go_wp2_with fail
        go_ret
        exact ⟨r, rfl, HR.out.trans ⟨fun e => by rw [hac'.out, e], fun e => by injection e⟩, HB0.out.trans (below_drewN _ _ _)⟩
      | false =>
        go_wp2_with fail
        refine (SameNat_c _ _ _ _ _ H1.out K1.out).mono ?_
        intro e w' hr
        obtain ⟨rfl, n, rfl⟩ := hr.yes hac'.out
        clear hr
        go_wp2_with fail
        refine (SameNat_c _ _ _ _ _ (H2.out.drewN n) (K2.out.drewN n)).mono ?_
        rintro e w' ⟨r, rfl, hr, n3, rfl⟩
        have HR := Lib.hid hr
        clear hr
        go_wp2_with fail
        go_ret
        exact ⟨r, rfl, HR.out.trans ⟨fun e => by rw [hac'.out, e], fun e => by injection e⟩, HB0.out.trans (below_drewN _ _ _)⟩
    · have hac' := Lib.hid hac
      clear hac
      go_enter Try.func13, Try.ntmps13
      go_upto_region 1 with fail
      rw [← hW]
      clear hW
      cases n1 with
      | true =>
        go_wp2_with fail
        refine (SameNat_c _ _ _ _ _ H1.out K1.out).mono ?_
        intro e w' hr
        obtain ⟨rfl, n, rfl⟩ := hr.no hac'.out
        clear hr
        go_wp2_with fail
        go_ret
        exact ⟨false, rfl, by simp [hac'.out], HB0.out.trans (below_drewN _ _ _)⟩
      | false =>
        go_wp2_with fail
        refine (SameNat_c _ _ _ _ _ H1.out K1.out).mono ?_
        intro e w' hr
        obtain ⟨rfl, n, rfl⟩ := hr.no hac'.out
        clear hr
        go_wp2_with fail
        go_ret
        exact ⟨false, rfl, by simp [hac'.out], HB0.out.trans (below_drewN _ _ _)⟩
  · have hn' := Lib.hid hn
    go_enter Try.func13, Try.ntmps13
    go_upto_region 1 with fail
    rw [← hW]
    clear hW
    cases n1 <;> cases n2 <;> first | exact absurd rfl hn | skip
    all_goals clear hn
    · go_wp2_with fail
      go_ret
      exact ⟨false, rfl, by simp, HB0.out⟩
    · go_wp2_with fail
      go_ret
      exact ⟨false, rfl, by simp, HB0.out⟩

set_option maxRecDepth 100000 in
set_option maxHeartbeats 2000000 in
theorem Made_c (w : World) (va vb : Value) (n d : Nat) (neg : Bool) (h : Sl w va (limbs n)) (k : Sl w vb (limbs d)) (hd : 0 < d)
    (ha : (limbs n).length ≤ 400000) (hb : (limbs d).length ≤ 400000) :
    Calls Try.prog 28 #[.bool neg, va, vb] w (RetF w (made neg n d)) := by
  have W1 := (Below.refl w.heap.size w).alloc (Nat.le_refl _) (.cells #[.bool false, .slice none 0 0, .slice none 0 0] 26)
  have g1 := h.alloc (.cells #[.bool false, .slice none 0 0, .slice none 0 0] 26)
  have g2 := k.alloc (.cells #[.bool false, .slice none 0 0, .slice none 0 0] 26)
  have hgp : 0 < Nat.gcd n d := Nat.gcd_pos_of_pos_right _ hd
  have hgl : (limbs (Nat.gcd n d)).length ≤ 400000 := Nat.le_trans (limbs_len_mono (Nat.gcd_le_right _ hd)) hb
  have H1 := Lib.hid g1
  have H2 := Lib.hid g2
  have HM : Hid (made neg n d = if 32 < (limbs (n / Nat.gcd n d)).length ∨ 32 < (limbs (d / Nat.gcd n d)).length then (F0, 3)
      else (fr (neg && decide (0 < n / Nat.gcd n d)) (n / Nat.gcd n d) (d / Nat.gcd n d), 0)) := by unfold made; congr
  clear h k g1 g2
  go_enter Try.func28, Try.ntmps28
  go_wp2_with fail
  refine (Gcd_c _ _ _ _ _ H1.out H2.out ha hb).mono ?_
  rintro e w1 ⟨vg, rfl, hg, hb1⟩
  have K1 := Lib.hid (H1.out.after hb1)
  have K2 := Lib.hid (H2.out.after hb1)
  have HG := Lib.hid hg
  have HB1 := Lib.hid hb1
  clear H1 H2 hg hb1
  generalize hgg : Nat.gcd n d = g at *
  clear hgg
  go_wp2_with fail
  refine (Quotient_c _ _ _ _ _ K1.out HG.out hgp ha hgl).mono ?_
  rintro e w2 ⟨v1, v2, rfl, hv1, hv2, hb2⟩
  have K3 := Lib.hid (K2.out.after hb2)
  have HG2 := Lib.hid (HG.out.after hb2)
  have HB2 := Lib.hid hb2
  obtain ⟨p, cp, rfl, hp1, hp2⟩ := hv1.shape
  have HV1 := Lib.hid hv1
  clear K1 K2 HG hv1 hv2 hb2
  go_wp2_with fail
  refine (Quotient_c _ _ _ _ _ K3.out HG2.out hgp hb hgl).mono ?_
  rintro e w3 ⟨v3, v4, rfl, hv3, hv4, hb3⟩
  obtain ⟨q, cq, rfl, hq1, hq2⟩ := hv3.shape
  have HV2 := Lib.hid (HV1.out.after hb3)
  have HV3 := Lib.hid hv3
  have HB3 := Lib.hid hb3
  clear K3 HG2 HV1 hv3 hv4 hb3
  generalize hx : n / g = x at *
  generalize hy : d / g = y at *
  clear hx hy
  have hw3 : Below (w.heap.size + 1) (w.alloc (.cells #[.bool false, .slice none 0 0, .slice none 0 0] 26)) w3 := by
    have s1 := HB1.out.size
    have s2 := HB2.out.size
    simp only [World.size_alloc] at s1
    have := (HB1.out.mono (by simp)).trans ((HB2.out.mono s1).trans (HB3.out.mono (Nat.le_trans s1 s2)))
    exact this
  have hbx := (Box.new w #[.bool false, .slice none 0 0, .slice none 0 0] 26).after (w' := w3) (by simpa using hw3)
  have r0 := hbx.cell 0
  have r1 := hbx.cell 1
  have r2 := hbx.cell 2
  have f0 := hbx.frozen 0
  have f1 := hbx.frozen 1
  have f2 := hbx.frozen 2
  have HW3 := Lib.hid hw3
  have HBX := Lib.hid hbx
  have hrl : w.heap.size < w3.heap.size := hbx.lt
  simp only [List.getElem?_toArray, List.getElem?_cons_zero, List.getElem?_cons_succ] at r0 r1 r2
  have hbw : Below w.heap.size w w3 := W1.trans (HW3.out.mono (by omega))
  clear hw3 hbx HB1 HB2 HB3
  by_cases hx1 : 32 < (limbs x).length
  · have HG : Hid (32 < (limbs x).length ∨ 32 < (limbs y).length) := .inl hx1
    go_wp2_with fail
    refine bodyPost_ret (v := .tuple #[.agg #[.bool false, .slice none 0 0, .slice none 0 0], .int .i64 3]) (by simp [results, Try.results28, go_sem, r0, r1, r2]) rfl ?_
    rw [HM.out, if_pos HG.out]
    exact ⟨_, rfl, IsF.zero _, ((hbw.setCell (Nat.le_refl _) _).setCell (Nat.le_refl _) _).setCell (Nat.le_refl _) _⟩
  · by_cases hy1 : 32 < (limbs y).length
    · have HG : Hid (32 < (limbs x).length ∨ 32 < (limbs y).length) := .inr hy1
      go_wp2_with fail
      refine bodyPost_ret (v := .tuple #[.agg #[.bool false, .slice none 0 0, .slice none 0 0], .int .i64 3]) (by simp [results, Try.results28, go_sem, r0, r1, r2]) rfl ?_
      rw [HM.out, if_pos HG.out]
      exact ⟨_, rfl, IsF.zero _, ((hbw.setCell (Nat.le_refl _) _).setCell (Nat.le_refl _) _).setCell (Nat.le_refl _) _⟩
    · have HG : Hid (¬ (32 < (limbs x).length ∨ 32 < (limbs y).length)) := by intro h; omega
      rcases Nat.lt_or_ge 0 x with hx0 | hx0
      · have hl := limbs_len_pos hx0
        cases neg with
        | true =>
          go_wp2_with fail
          refine bodyPost_ret (v := .tuple #[.agg #[.bool true, .slice p (limbs x).length cp, .slice q (limbs y).length cq], .int .i64 0]) (by simp [results, Try.results28, go_sem, r0, r1, r2]) rfl ?_
          rw [HM.out, if_neg HG.out, show (true && decide (0 < x)) = true from by simp [hx0]]
          exact ⟨_, rfl, IsF.result HBX.out (fun _ h => by cases h) (fun _ h => by cases h) HV2.out HV3.out, ((hbw.setCell (Nat.le_refl _) _).setCell (Nat.le_refl _) _).setCell (Nat.le_refl _) _⟩
        | false =>
          go_wp2_with fail
          refine bodyPost_ret (v := .tuple #[.agg #[.bool false, .slice p (limbs x).length cp, .slice q (limbs y).length cq], .int .i64 0]) (by simp [results, Try.results28, go_sem, r0, r1, r2]) rfl ?_
          rw [HM.out, if_neg HG.out, Bool.false_and]
          exact ⟨_, rfl, IsF.result HBX.out (fun _ h => by cases h) (fun _ h => by cases h) HV2.out HV3.out, ((hbw.setCell (Nat.le_refl _) _).setCell (Nat.le_refl _) _).setCell (Nat.le_refl _) _⟩
      · obtain rfl : x = 0 := by omega
        have HV2' : Hid (Sl w3 (.slice p 0 cp) (limbs 0)) := by have := HV2.out; rwa [show (limbs 0).length = 0 from by rw [limbs_zero]; rfl] at this
        clear HV2
        simp only [limbs_zero, List.length_nil]
        cases neg with
        | true =>
          go_wp2_with fail
          refine bodyPost_ret (v := .tuple #[.agg #[.bool false, .slice p 0 cp, .slice q (limbs y).length cq], .int .i64 0]) (by simp [results, Try.results28, go_sem, r0, r1, r2]) rfl ?_
          rw [HM.out, if_neg HG.out, show (true && decide (0 < 0)) = false from rfl]
          exact ⟨_, rfl, IsF.result HBX.out (fun _ h => by cases h) (fun _ h => by cases h) HV2'.out HV3.out, ((hbw.setCell (Nat.le_refl _) _).setCell (Nat.le_refl _) _).setCell (Nat.le_refl _) _⟩
        | false =>
          go_wp2_with fail
          refine bodyPost_ret (v := .tuple #[.agg #[.bool false, .slice p 0 cp, .slice q (limbs y).length cq], .int .i64 0]) (by simp [results, Try.results28, go_sem, r0, r1, r2]) rfl ?_
          rw [HM.out, if_neg HG.out, Bool.false_and]
          exact ⟨_, rfl, IsF.result HBX.out (fun _ h => by cases h) (fun _ h => by cases h) HV2'.out HV3.out, ((hbw.setCell (Nat.le_refl _) _).setCell (Nat.le_refl _) _).setCell (Nat.le_refl _) _⟩

set_option maxHeartbeats 400000 in
theorem Rsize_c (w : World) (n : Int) (h0 : -9223372036854775808 ≤ n) (h1 : n ≤ 9223372036854775807) :
    Calls Try.prog 30 #[.int .i64 n] w fun e w' => e = .returned (.int .u64 (n.natAbs : Int)) ∧ w' = w := by
  rcases Int.lt_or_le n 0 with hn | hn
  · go_enter Try.func30, Try.ntmps30
    go_wp2
    go_ret
    refine ⟨ret_int ?_, rfl⟩
    simp only [IntKind.wrap_u64]; omega
  · go_enter Try.func30, Try.ntmps30
    go_wp2
    go_ret
    refine ⟨ret_int ?_, rfl⟩
    omega
end Go.Proofs.Ytebmegodeglobaa

namespace Go.Proofs.Ytebmegodeglobaa
open Go.RowKit

set_option maxRecDepth 100000 in
set_option maxHeartbeats 1000000 in
theorem ROf_c (w : World) (n d : Int) (h0 : -9223372036854775808 ≤ n) (h1 : n ≤ 9223372036854775807) (k0 : -9223372036854775808 ≤ d) (k1 : d ≤ 9223372036854775807) :
    Calls Try.prog 18 #[.int .i64 n, .int .i64 d] w (RetF w (ofF n d)) := by
  by_cases hd : d = 0
  · subst hd
    go_enter Try.func18, Try.ntmps18
    go_wp2_with fail
    refine bodyPost_ret (v := .tuple #[.agg #[.bool false, .slice none 0 0, .slice none 0 0], .int .i64 2]) (by simp [results, Try.results18, go_sem]) rfl ?_
    exact ⟨_, rfl, IsF.zero _, (Below.refl _ w).alloc (Nat.le_refl _) _⟩
  · have hne : (d == 0) = false := beq_eq_false_iff_ne.2 hd
    have hof : Hid (ofF n d = made (!(decide (n < 0) == decide (d < 0))) n.natAbs d.natAbs) := by show ofF n d = _; unfold ofF; rw [if_neg hd]
    have hdp : 0 < d.natAbs := by omega
    have hl1 : Hid (∀ m : Nat, m ≤ 9223372036854775808 → (limbs m).length ≤ 400000) := fun m hm => by
      have := limbs_len_lt (n := m) (k := 2) (by omega)
      omega
    have br := Box.new w #[.bool false, .slice none 0 0, .slice none 0 0] 26
    have BR := Lib.hid br
    clear hd br
    go_enter Try.func18, Try.ntmps18
    go_wp2_with fail
    refine (Rsize_c _ n h0 h1).mono ?_
    rintro e w' ⟨rfl, rfl⟩
    go_wp2_with fail
    refine (From_c n.natAbs (by omega) _).mono ?_
    rintro e w1 ⟨v1, rfl, hv1, hb1⟩
    have HV1 := Lib.hid hv1
    have HB1 := Lib.hid hb1
    clear hv1 hb1
    go_wp2_with fail
    refine (Rsize_c _ d k0 k1).mono ?_
    rintro e w' ⟨rfl, rfl⟩
    go_wp2_with fail
    refine (From_c d.natAbs (by omega) _).mono ?_
    rintro e w2 ⟨v2, rfl, hv2, hb2⟩
    have HV1' := Lib.hid (HV1.out.after hb2)
    have HV2 := Lib.hid hv2
    have hb12 := HB1.out.trans (hb2.mono HB1.out.size)
    have BX2 := Lib.hid (BR.out.after hb12)
    have BW := Lib.hid (((Below.refl w.heap.size w).alloc (Nat.le_refl _) (.cells #[.bool false, .slice none 0 0, .slice none 0 0] 26)).trans (hb12.mono (by simp)))
    clear HV1 HB1 hv2 hb2 hb12 BR
    go_wp2_with fail
    refine (Made_c w2 v1 v2 n.natAbs d.natAbs (!(decide (n < 0) == decide (d < 0))) HV1'.out HV2.out hdp (hl1.out _ (by omega)) (hl1.out _ (by omega))).mono ?_
    rw [← hof.out]
    rintro e w3 ⟨v3, rfl, hv3, hb3⟩
    obtain ⟨va, vb, rfl, hva, hvb⟩ := hv3
    have bx3 := BX2.out.after hb3
    obtain ⟨p, cp, rfl, hp1, hp2⟩ := hva.shape
    obtain ⟨q, cq, rfl, hq1, hq2⟩ := hvb.shape
    have bw := BW.out.trans (hb3.mono BW.out.size)
    obtain ⟨r0, r1, r2⟩ := bx3.cells3
    have f0 := bx3.frozen 0
    have f1 := bx3.frozen 1
    have f2 := bx3.frozen 2
    generalize hof2 : ofF n d = o at *
    obtain ⟨⟨neg, A, B⟩, er⟩ := o
    have HVA := Lib.hid hva
    have HVB := Lib.hid hvb
    have BX3 := Lib.hid bx3
    have BW3 := Lib.hid bw
    clear hva hvb bx3 bw hb3 BX2 BW hof hof2
    simp only at HVA HVB
    go_wp2_with fail
    refine bodyPost_ret (v := .tuple #[.agg #[.bool neg, .slice p A.length cp, .slice q B.length cq], .int .i64 er]) (by simp [results, Try.results18, go_sem, r0, r1, r2]) rfl ?_
    exact ⟨_, rfl, IsF.result BX3.out (fun _ h => by cases h) (fun _ h => by cases h) HVA.out HVB.out, ((BW3.out.setCell (Nat.le_refl _) _).setCell (Nat.le_refl _) _).setCell (Nat.le_refl _) _⟩
end Go.Proofs.Ytebmegodeglobaa

namespace Go.Proofs.Ytebmegodeglobaa
open Go.RowKit

end Go.Proofs.Ytebmegodeglobaa

namespace Go.Proofs.Ytebmegodeglobaa
open Go.RowKit

theorem CmpS.le {m n : Nat} {r : Int} (h : CmpS (limbs m) (limbs n) r) : r ≤ 0 ↔ m ≤ n := by
  obtain ⟨h1, h2, h3⟩ := h
  rcases Nat.lt_trichotomy (limbs m).length (limbs n).length with hl | hl | hl
  · have := h1 hl
    constructor
    · intro _
      rcases Nat.lt_or_ge n m with hlt | hge
      · have := limbs_len_mono (Nat.le_of_lt hlt); omega
      · exact hge
    · intro _; omega
  · have := h3 hl
    rw [val_limbs, val_limbs] at this
    rcases this with ⟨a, b⟩ | ⟨a, b⟩ | ⟨a, b⟩
    · omega
    · have := limbs_inj a; omega
    · omega
  · have := h2 hl
    constructor
    · intro h; omega
    · intro h; have := limbs_len_mono h; omega

theorem fracE_iff {x : F} (h : ValidF x) : (x.neg = false ∧ val x.num ≤ val x.den) ↔ fracE x = 0 := by
  rw [fracE_yes h]
  by_cases hc : x.neg = true ∨ val x.den < val x.num
  · rw [if_pos hc]
    constructor
    · rintro ⟨h1, h2⟩
      rcases hc with h3 | h3
      · rw [h1] at h3; cases h3
      · omega
    · intro h; omega
  · rw [if_neg hc]
    constructor
    · intro _; rfl
    · intro _
      refine ⟨?_, ?_⟩
      · cases hx : x.neg
        · rfl
        · exact absurd (.inl hx) hc
      · rcases Nat.lt_or_ge (val x.den) (val x.num) with h1 | h1
        · exact absurd (.inr h1) hc
        · exact h1

end Go.Proofs.Ytebmegodeglobaa

namespace Go.Proofs.Ytebmegodeglobaa
open Go.RowKit

theorem CmpS.gt {m n : Nat} {r : Int} (h : CmpS (limbs m) (limbs n) r) : 0 < r ↔ n < m := by
  have := h.le
  constructor
  · intro h1; rcases Nat.lt_or_ge n m with h2 | h2
    · exact h2
    · have := this.2 h2; omega
  · intro h1; rcases Int.lt_or_le 0 r with h2 | h2
    · exact h2
    · have := this.1 h2; omega

end Go.Proofs.Ytebmegodeglobaa
