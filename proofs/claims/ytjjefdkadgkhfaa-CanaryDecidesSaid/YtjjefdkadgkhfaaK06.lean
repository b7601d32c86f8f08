/- Walks: common, Valid, reduced, Of.
   Walks of the reference: bits, double, half.
   Walks of the reference: half.
   Walks of the reference: Quotient, Gcd.
   Walks of the reference: Gcd.
   Memory words, more: a result struct that is written field by field, beside numbers that lie elsewhere. -/
import Derived.Test.YtjjefdkadgkhfaaK05
import Derived.Test.YtjjefdkadgkhfaaK03
import Derived.Deep.DeepCutAuto
import Derived.Deep.LoopGhost
import Derived.Deep.QuietTactic
import Derived.Deep.CutBlock
set_option linter.unusedVariables false
namespace Go.Proofs.Ytjjefdkadgkhfaa
open Go.RowKit

theorem Sl.shape {w : World} {v : Value} {l : List Nat} (h : Sl w v l) : ∃ a cap, v = .slice a l.length cap ∧ l.length ≤ cap ∧ cap ≤ 9223372036854775807 := by
  obtain ⟨_, a, cap, h1, h2, h3, _, _⟩ := h
  exact ⟨a, cap, h1, h2, h3⟩

set_option maxRecDepth 100000 in
set_option maxHeartbeats 1000000 in
theorem common_c (w : World) (va vb : Value) (x y : Nat) (h : Sl w va (limbs x)) (k : Sl w vb (limbs y)) (ha : (limbs x).length ≤ 1000000) (hb : (limbs y).length ≤ 1000000) :
    Calls Try.prog 56 #[va, vb] w (RetNat w (Nat.gcd x y)) := by
  obtain ⟨p, cp, rfl, hp1, hp2⟩ := h.shape
  obtain ⟨q, cq, rfl, hq1, hq2⟩ := k.shape
  have HS := Lib.hid h
  have KS := Lib.hid k
  clear h k
  go_enter Try.func56, Try.ntmps56
  go_wp2
  go_loopg [0, 1] y (fun g a b wx => ∃ (X : Nat) (p q : Option Addr) (cp cq : Nat), a = .slice p (limbs X).length cp ∧ b = .slice q (limbs g).length cq ∧ Hid (Sl wx (.slice p (limbs X).length cp) (limbs X)) ∧ Hid (Sl wx (.slice q (limbs g).length cq) (limbs g)) ∧
    (limbs X).length ≤ 1000000 ∧ (limbs g).length ≤ 1000000 ∧ Hid (Nat.gcd x y = Nat.gcd X g) ∧ Below w.heap.size w wx)
  case atStart => exact ⟨x, p, q, cp, cq, rfl, rfl, HS.out, KS.out, ha, hb, rfl, Below.refl _ w⟩
  case round =>
    obtain ⟨X, p', q', cp', cq', rfl, rfl, h1, h2, h3, h4, hg, hbl⟩ := hrel
    clear HS KS
    rcases Nat.eq_zero_or_pos gk with hz | hpos
    · subst hz
      have e0 : (limbs 0).length = 0 := by rw [limbs_zero]; rfl
      go_wp2_with fail
      go_ret
      refine ⟨_, rfl, ?_, hbl⟩
      rw [hg.out, Nat.gcd_zero_right]
      exact h1.out
    · have hl := limbs_len_pos hpos
      go_wp2_with fail
      refine (divide_c _ _ _ X gk h1.out h2.out hpos h3).mono ?_
      rintro e w1 ⟨v, u, rfl, hv, hu, hb1⟩
      obtain ⟨p2, cp2, rfl, hp3, hp4⟩ := hu.shape
      have h2' := h2.out.after hb1
      have hm : X % gk < gk := Nat.mod_lt _ hpos
      have hml := limbs_len_mono (Nat.le_of_lt hm)
      have HU := Lib.hid hu
      have H2 := Lib.hid h2'
      generalize hmm : X % gk = mm at *
      have HMM := Lib.hid hmm
      have hbb := hbl.size
      have hbn := hbl.trans (hb1.mono hbb)
      clear hv hu h2' hmm
      go_wp2_with fail
      go_roundg mm
      case measure => exact hm
      case rel => exact ⟨gk, q', p2, cq', cp2, rfl, rfl, H2.out, HU.out, h4, by omega, by rw [hg.out, ← HMM.out]; exact (Nat.gcd_comm X gk).trans ((Nat.gcd_rec gk X).trans (Nat.gcd_comm _ _)), hbn⟩

theorem common_l (w : World) (va vb : Value) (A B : List Nat) (h : Sl w va A) (k : Sl w vb B) (ca : Canon A) (cb : Canon B) (ha : A.length ≤ 1000000) (hb : B.length ≤ 1000000) :
    Calls Try.prog 56 #[va, vb] w (RetNat w (Nat.gcd (val A) (val B))) := by
  unfold Canon at ca cb
  refine common_c w va vb (val A) (val B) (by rw [← ca]; exact h) (by rw [← cb]; exact k) (by rw [← ca]; exact ha) (by rw [← cb]; exact hb)

/-- A value reads as a fraction. -/
def IsF (w : World) (v : Value) (x : F) : Prop := ∃ va vb, v = .agg #[.bool x.neg, va, vb] ∧ Sl w va x.num ∧ Sl w vb x.den
theorem IsF.after {w w' : World} {v : Value} {x : F} (h : IsF w v x) (hb : Below w.heap.size w w') : IsF w' v x := by
  obtain ⟨va, vb, h1, h2, h3⟩ := h
  exact ⟨va, vb, h1, h2.after hb, h3.after hb⟩
theorem IsF.alloc {w : World} {v : Value} {x : F} (h : IsF w v x) (o : Obj) : IsF (w.alloc o) v x := h.after ((Below.refl _ w).alloc (Nat.le_refl _) o)
theorem IsF.drewN {w : World} {v : Value} {x : F} (h : IsF w v x) (n : Nat) : IsF (w.drewN n) v x := h
theorem IsF.zero (w : World) : IsF w (.agg #[.bool false, .slice none 0 0, .slice none 0 0]) F0 := ⟨_, _, rfl, Sl.nil w, Sl.nil w⟩
/-- The results are a fraction and an error. -/
def RetF (w : World) (r : F × Int) (e : Ending) (w' : World) : Prop := ∃ v, e = .returned (.tuple #[v, .int .i64 r.2]) ∧ IsF w' v r.1 ∧ Below w.heap.size w w'
/-- The result is a fraction. -/
def RetF1 (w : World) (r : F) (e : Ending) (w' : World) : Prop := ∃ v, e = .returned v ∧ IsF w' v r ∧ Below w.heap.size w w'

theorem RetB.yes {w : World} {p : Prop} {e : Ending} {w' : World} (h : RetB w p e w') (hp : p) : e = .returned (.bool true) ∧ ∃ n, w' = w.drewN n := by
  obtain ⟨r, rfl, hr, hw⟩ := h
  rw [hr.2 hp]; exact ⟨rfl, hw⟩
theorem RetB.no {w : World} {p : Prop} {e : Ending} {w' : World} (h : RetB w p e w') (hp : ¬ p) : e = .returned (.bool false) ∧ ∃ n, w' = w.drewN n := by
  obtain ⟨r, rfl, hr, hw⟩ := h
  cases r with
  | true => exact absurd (hr.1 rfl) hp
  | false => exact ⟨rfl, hw⟩
theorem RetC.yes {w : World} {p : Prop} {e : Ending} {w' : World} (h : RetC w p e w') (hp : p) : e = .returned (.bool true) ∧ Below w.heap.size w w' := by
  obtain ⟨r, rfl, hr, hw⟩ := h
  rw [hr.2 hp]; exact ⟨rfl, hw⟩
theorem RetC.no {w : World} {p : Prop} {e : Ending} {w' : World} (h : RetC w p e w') (hp : ¬ p) : e = .returned (.bool false) ∧ Below w.heap.size w w' := by
  obtain ⟨r, rfl, hr, hw⟩ := h
  cases r with
  | true => exact absurd (hr.1 rfl) hp
  | false => exact ⟨rfl, hw⟩

/-- A cell that a function has laid for a struct of its own, after calls that leave what was there. -/
theorem old_cells {W w1 : World} (hb : Below W.heap.size W w1) : (∀ b o, b < W.heap.size → w1.cell? ⟨b, o, none⟩ = W.cell? ⟨b, o, none⟩) ∧ (∀ b o, b < W.heap.size → w1.frozen? ⟨b, o, none⟩ = W.frozen? ⟨b, o, none⟩) :=
  ⟨fun b o h => hb.cell (p := ⟨b, o, none⟩) h, fun b o h => hb.frozen (p := ⟨b, o, none⟩) h⟩

set_option maxRecDepth 100000 in
set_option maxHeartbeats 1000000 in
theorem Valid_c (w : World) (v : Value) (x : F) (h : IsF w v x) : Calls Try.prog 49 #[v] w (RetC w (ValidF x)) := by
  obtain ⟨va, vb, rfl, h1, h2⟩ := h
  obtain ⟨neg, A, B⟩ := x
  simp only at h1 h2 ⊢
  obtain ⟨p, cp, rfl, hp1, hp2⟩ := h1.shape
  obtain ⟨q, cq, rfl, hq1, hq2⟩ := h2.shape
  have W1 := (Below.refl w.heap.size w).alloc (Nat.le_refl _) (.cells #[.bool neg, .slice p A.length cp, .slice q B.length cq] 30)
  have g1 := h1.alloc (.cells #[.bool neg, .slice p A.length cp, .slice q B.length cq] 30)
  have g2 := h2.alloc (.cells #[.bool neg, .slice p A.length cp, .slice q B.length cq] 30)
  have H1 := Lib.hid g1
  have H2 := Lib.hid g2
  clear h1 h2 g1 g2
  by_cases hA : A.length ≤ 32 ∧ Canon A
  · by_cases hB : B.length ≤ 32 ∧ Canon B
    · have hA' := Lib.hid hA
      have hB' := Lib.hid hB
      clear hA hB
      rcases Nat.lt_or_ge 0 B.length |>.symm with hb0 | hb0
      · have hno : ¬ ValidF ⟨neg, A, B⟩ := fun hv => by
          have e : B = [] := List.length_eq_zero_iff.1 (by omega)
          have := hv.2.2.pos
          rw [e] at this
          simp [val] at this
        have hno' := Lib.hid hno
        clear hno
        go_enter Try.func49, Try.ntmps49
        go_wp2_with fail
        refine (proper_c _ _ _ H1.out).mono ?_
        intro e w' hr
        obtain ⟨rfl, n, rfl⟩ := hr.yes hA'.out
        clear hr
        go_wp2_with fail
        refine (proper_c _ _ _ (H2.out.drewN n)).mono ?_
        intro e w' hr
        obtain ⟨rfl, n2, rfl⟩ := hr.yes hB'.out
        clear hr
        go_wp2_with fail
        go_ret
        exact ⟨false, rfl, by simp [hno'.out], W1.trans (below_drewN _ _ _)⟩
      · rcases Nat.lt_or_ge 0 A.length |>.symm with ha0 | ha0
        · have hA0 : Hid (A = []) := List.length_eq_zero_iff.1 (by omega)
          cases neg with
          | true =>
            have hno : Hid (¬ ValidF ⟨true, A, B⟩) := fun hv => by
              have h := hv.2.2.sign
              rw [hA0.out] at h
              exact absurd (h rfl) (by simp)
            go_enter Try.func49, Try.ntmps49
            go_wp2_with fail
            refine (proper_c _ _ _ H1.out).mono ?_
            intro e w' hr
            obtain ⟨rfl, n, rfl⟩ := hr.yes hA'.out
            clear hr
            go_wp2_with fail
            refine (proper_c _ _ _ (H2.out.drewN n)).mono ?_
            intro e w' hr
            obtain ⟨rfl, n2, rfl⟩ := hr.yes hB'.out
            clear hr
            go_wp2_with fail
            go_ret
            exact ⟨false, rfl, by simp [hno.out], W1.trans (below_drewN _ _ _)⟩
          | false =>
            have hiff : Hid (B = [1] ↔ ValidF ⟨false, A, B⟩) := by
              constructor
              · intro hb
                refine ⟨hA'.out.2, hB'.out.2, ?_⟩
                rw [hA0.out, hb]
                exact ⟨by simp [val, limbs_zero], by simp [val, limbs_one], by simp [val], by simp [val], fun _ => rfl⟩
              · intro hv
                have hg := hv.2.2.gcd
                rw [hA0.out] at hg
                simp only [val, Nat.gcd_zero_left] at hg
                have := hv.2.1
                unfold Canon at this
                simp only at this
                rw [hg, limbs_one] at this
                exact this
            go_enter Try.func49, Try.ntmps49
            go_wp2_with fail
            refine (proper_c _ _ _ H1.out).mono ?_
            intro e w' hr
            obtain ⟨rfl, n, rfl⟩ := hr.yes hA'.out
            clear hr
            go_wp2_with fail
            refine (proper_c _ _ _ (H2.out.drewN n)).mono ?_
            intro e w' hr
            obtain ⟨rfl, n2, rfl⟩ := hr.yes hB'.out
            clear hr
            go_wp2_with fail
            refine (one_c _ _ _ (H2.out.drewN _)).mono ?_
            rintro e w' ⟨r, rfl, hr, n3, rfl⟩
            have HR := Lib.hid hr
            clear hr
            go_wp2_with fail
            go_ret
            exact ⟨r, rfl, HR.out.trans hiff.out, W1.trans (below_drewN _ _ _)⟩
        · have hiff : Hid (limbs (Nat.gcd (val A) (val B)) = [1] ↔ ValidF ⟨neg, A, B⟩) := by
            constructor
            · intro hg
              have hg1 : Nat.gcd (val A) (val B) = 1 := limbs_inj (by rw [hg, limbs_one])
              have ea := hA'.out.2
              have eb := hB'.out.2
              refine ⟨ea, eb, ⟨?_, ?_, ?_, hg1, ?_⟩⟩
              · unfold Canon at ea; show (limbs (val A)).length ≤ 32; rw [← ea]; exact hA'.out.1
              · unfold Canon at eb; show (limbs (val B)).length ≤ 32; rw [← eb]; exact hB'.out.1
              · unfold Canon at eb; rw [eb] at hb0
                show 0 < val B
                rcases Nat.eq_zero_or_pos (val B) with h0 | h0
                · rw [h0, limbs_zero] at hb0; simp at hb0
                · exact h0
              · intro h0
                unfold Canon at ea; rw [ea] at ha0
                simp only at h0
                rw [h0, limbs_zero] at ha0; simp at ha0
            · intro hv
              rw [hv.2.2.gcd, limbs_one]
          have ea := hA'.out.2
          have eb := hB'.out.2
          have la := hA'.out.1
          have lb := hB'.out.1
          have HEA := Lib.hid ea
          have HEB := Lib.hid eb
          clear ea eb
          go_enter Try.func49, Try.ntmps49
          go_wp2_with fail
          refine (proper_c _ _ _ H1.out).mono ?_
          intro e w' hr
          obtain ⟨rfl, n, rfl⟩ := hr.yes hA'.out
          clear hr
          go_wp2_with fail
          refine (proper_c _ _ _ (H2.out.drewN n)).mono ?_
          intro e w' hr
          obtain ⟨rfl, n2, rfl⟩ := hr.yes hB'.out
          clear hr
          go_wp2_with fail
          refine (common_l _ _ _ _ _ (H1.out.drewN _) (H2.out.drewN _) HEA.out HEB.out (by omega) (by omega)).mono ?_
          rintro e w1 ⟨g, rfl, hg, hb1⟩
          have HG := Lib.hid hg
          clear hg
          go_wp2_with fail
          refine (one_c _ _ _ HG.out).mono ?_
          rintro e w' ⟨r, rfl, hr, n3, rfl⟩
          have HR := Lib.hid hr
          have HB := Lib.hid hb1
          clear hr hb1
          go_wp2_with fail
          go_ret
          exact ⟨r, rfl, HR.out.trans hiff.out, ((W1.trans (below_drewN _ _ _)).trans (HB.out.mono (by simp))).trans (below_drewN _ _ _)⟩
    · have hno : ¬ ValidF ⟨neg, A, B⟩ := fun hv => hB ⟨by have := hv.2.2.d32; have e := hv.2.1; unfold Canon at e; rw [← e] at this; exact this, hv.2.1⟩
      have hA' := Lib.hid hA
      have hB' := Lib.hid hB
      have hno' := Lib.hid hno
      clear hA hB hno
      go_enter Try.func49, Try.ntmps49
      go_wp2_with fail
      refine (proper_c _ _ _ H1.out).mono ?_
      intro e w' hr
      obtain ⟨rfl, n, rfl⟩ := hr.yes hA'.out
      clear hr
      go_wp2_with fail
      refine (proper_c _ _ _ (H2.out.drewN n)).mono ?_
      intro e w' hr
      obtain ⟨rfl, n2, rfl⟩ := hr.no hB'.out
      clear hr
      go_wp2_with fail
      go_ret
      exact ⟨false, rfl, by simp [hno'.out], W1.trans (below_drewN _ _ _)⟩
  · have hno : ¬ ValidF ⟨neg, A, B⟩ := fun hv => hA ⟨by have := hv.2.2.n32; have e := hv.1; unfold Canon at e; rw [← e] at this; exact this, hv.1⟩
    have hA' := Lib.hid hA
    have hno' := Lib.hid hno
    clear hA hno
    go_enter Try.func49, Try.ntmps49
    go_wp2_with fail
    refine (proper_c _ _ _ H1.out).mono ?_
    intro e w' hr
    obtain ⟨rfl, n, rfl⟩ := hr.no hA'.out
    clear hr
    go_wp2_with fail
    go_ret
    exact ⟨false, rfl, by simp [hno'.out], W1.trans (below_drewN _ n _)⟩
end Go.Proofs.Ytjjefdkadgkhfaa

namespace Go.Proofs.Ytjjefdkadgkhfaa
open Go.RowKit

theorem bl_half {g z : Nat} (h : 0 < z) (e : g = bl z) : bl (z / 2) + 1 = g := by rw [e, bl_pos h]

theorem half_bits {x y h : Nat} (hx : x < 4294967296) (hh : h = x / 2 + y % 2 * 2147483648) : bits .or .u32 ((x : Int) / 2) ((y : Int) * 2147483648 % 4294967296) = (h : Int) := by
  have e1 : (x : Int) / 2 = ((x / 2 : Nat) : Int) := by omega
  have e2 : (y : Int) * 2147483648 % 4294967296 = ((y * 2147483648 % 4294967296 : Nat) : Int) := by omega
  rw [e1, e2, u32_or_nat _ _ (by omega) (by omega), half_or hx, hh]
theorem halfL_eq (a : List Nat) (i : Nat) : halfL a i = lim a i / 2 + lim a (i + 1) % 2 * 2147483648 := by unfold halfL; rfl

set_option maxHeartbeats 400000 in
theorem bits_c (w : World) (v : Value) (n : Nat) (h : Sl w v (limbs n)) (hn : (limbs n).length ≤ 1000000) :
    Calls Try.prog 91 #[v] w (fun e w' => e = .returned (.int .i64 (bl n : Int)) ∧ ∃ k, w' = w.drewN k) := by
  rcases Nat.eq_zero_or_pos n with hz | hpos
  · subst hz
    rw [limbs_zero] at h
    rw [bl_zero]
    obtain ⟨h0, p, cap, rfl, h2, h3, h5, h6⟩ := h
    clear h5 h6 hn
    simp only [List.length_nil]
    go_enter Try.func91, Try.ntmps91
    go_wp2
    go_ret
    exact ⟨rfl, 0, rfl⟩
  · have hl := limbs_len_pos hpos
    have hb := Lib.hid (bl_limbs hpos)
    obtain ⟨h0, p, cap, rfl, h2, h3, h5, h6⟩ := h
    obtain ⟨b, off, rfl, _, hc⟩ := h6 hl
    have hc0 := hc ((limbs n).length - 1) (by omega)
    have hlx := h0.getD ((limbs n).length - 1)
    clear hc h6 h5 h0
    generalize lim (limbs n) ((limbs n).length - 1) = top at *
    generalize (limbs n).length = m at *
    generalize bl n = r at *
    have hbt := bl_small hlx
    have hne : ((m : Int) == 0) = false := by rw [beq_eq_false_iff_ne]; omega
    have hcast : 32 * ((m : Int) - 1) = ((32 * (m - 1) : Nat) : Int) := by omega
    go_enter Try.func91, Try.ntmps91
    go_wp2
    go_loopg [3, 4] (bl top) (fun g c x wx => ∃ z : Nat, z ≤ top ∧ Hid (g = bl z) ∧ g ≤ bl top ∧ c = .int .i64 ((32 * (m - 1) + bl top - g : Nat) : Int) ∧ x = .int .u32 (z : Int) ∧ wx = w)
    case atStart => exact ⟨top, Nat.le_refl _, rfl, Nat.le_refl _, by rw [Nat.add_sub_cancel]; first | rfl | (rw [← hcast]), rfl, rfl⟩
    case round =>
      obtain ⟨z, hz, hg, hgl, rfl, rfl, rfl⟩ := hrel
      rcases Nat.eq_zero_or_pos z with hz0 | hzp
      · subst hz0
        have hg0 : gk = 0 := by rw [hg.out, bl_zero]
        subst hg0
        go_wp2
        go_ret
        exact ⟨by rw [hb.out]; rfl, 0, rfl⟩
      · have hg2 := bl_half hzp hg.out
        have HG2 := Lib.hid hg2
        clear hg2
        have hgp : 1 ≤ gk := by rw [← HG2.out]; omega
        go_wp2
        go_roundg (gk - 1)
        case measure => omega
        case rel => exact ⟨z / 2, by omega, by rw [← HG2.out]; rfl, by omega, by go_num, by go_num, rfl⟩

set_option maxHeartbeats 400000 in
theorem double_c (w : World) (v : Value) (n : Nat) (one : Bool) (h : Sl w v (limbs n)) (hn : (limbs n).length ≤ 900000) :
    Calls Try.prog 92 #[v, .bool one] w (RetNat w (2 * n + one.toNat)) := by
  have h2n := limbs_add_len n n
  have e2 : val (limbs n) + val (limbs n) = 2 * n := by rw [val_limbs]; omega
  have E2 := Lib.hid e2
  have HS := Lib.hid h
  have hl2 : Hid ((limbs (2 * n)).length ≤ 1000000) := by show _ ≤ _; rw [← Nat.two_mul] at h2n; omega
  obtain ⟨p, cp, rfl, hp1, hp2⟩ := h.shape
  clear h e2 h2n
  cases one with
  | false =>
    go_enter Try.func92, Try.ntmps92
    go_wp2_with fail
    refine (Sum_c _ _ _ _ _ HS.out HS.out (by omega) (by omega)).mono ?_
    rw [E2.out]
    rintro e w1 ⟨v1, rfl, hv1, hb1⟩
    have HV := Lib.hid hv1
    have HB := Lib.hid hb1
    clear hv1 hb1
    go_wp2_with fail
    go_ret
    exact ⟨_, rfl, HV.out, HB.out⟩
  | true =>
    go_enter Try.func92, Try.ntmps92
    go_wp2_with fail
    refine (Sum_c _ _ _ _ _ HS.out HS.out (by omega) (by omega)).mono ?_
    rw [E2.out]
    rintro e w1 ⟨v1, rfl, hv1, hb1⟩
    obtain ⟨p2, cp2, rfl, hp3, hp4⟩ := hv1.shape
    have HV := Lib.hid hv1
    have HB := Lib.hid hb1
    clear hv1 hb1
    go_wp2_with fail
    have hr := Row32.lit1 w1 1 1 rfl
    have hs := Sl.of_row (cap := 1) hr (Lb.cons (by omega) Lb.nil) (by simp) (by omega)
    have HS1 := Lib.hid hs
    clear hr hs
    refine (Sum_c _ _ _ _ _ (HV.out.alloc _) HS1.out (by have := hl2.out; omega) (by simp)).mono ?_
    rintro e w2 ⟨v2, rfl, hv2, hb2⟩
    have HV2 := Lib.hid hv2
    have HB2 := Lib.hid (HB.out.trans ((((Below.refl _ w1).alloc (Nat.le_refl _) (.cells #[.int .u32 1] 104)).trans (hb2.mono (by simp))).mono HB.out.size))
    clear hv2 hb2
    go_wp2_with fail
    go_ret
    exact ⟨_, rfl, by have := HV2.out; rw [val_limbs] at this; exact this, HB2.out⟩

end Go.Proofs.Ytjjefdkadgkhfaa

namespace Go.Proofs.Ytjjefdkadgkhfaa
open Go.RowKit

set_option maxRecDepth 100000 in
set_option maxHeartbeats 2000000 in
theorem half_c (w : World) (va : Value) (n : Nat) (h : Sl w va (limbs n)) (ha : (limbs n).length ≤ 1000000) :
    Calls Try.prog 94 #[va] w (RetNat w (n / 2)) := by
  have hvn := Lib.hid (val_limbs n)
  generalize limbs n = a at *
  have hs := h
  obtain ⟨h0, p, cap, rfl, h2, h3, h5, h6⟩ := h
  have HS := Lib.hid hs
  clear hs h5 h6
  have hmk := run_make32 a.length (by omega)
  go_enter Try.func94, Try.ntmps94
  go_wp2
  go_loopg [4] a.length (fun g t wx => ∃ (i : Nat) (o : List Nat), i ≤ a.length ∧ g = a.length - i ∧ t = .int .i64 (i : Int) ∧ Row32 wx w.heap.size o ∧ Hid (HalfRel a o i) ∧ Below w.heap.size w wx)
  case atStart => exact ⟨0, _, Nat.zero_le _, rfl, rfl, Row32.made w _, HalfRel.start a, (Below.refl _ w).alloc (Nat.le_refl _) _⟩
  case round =>
    obtain ⟨i, o, hi, rfl, rfl, hrow, hrel, hbl⟩ := hrel
    have r1 := hrel.out.1
    have r2 := hrel.out.2.1
    have hsz := hbl.size
    by_cases hlt : i < a.length
    · obtain ⟨_, _, _, hv, _, _, _, h6⟩ := HS.out
      obtain ⟨rfl, rfl⟩ : p = _ ∧ cap = _ := by simpa using hv
      obtain ⟨b1, o1, rfl, hb1, hc1⟩ := h6 (by omega)
      have hca : wr.cell? ⟨b1, o1 + i, none⟩ = some (.int .u32 ((lim a i : Nat) : Int)) := (hbl.cell (p := ⟨b1, o1 + i, none⟩) hb1).trans (hc1 i hlt)
      have hrc := hrow.cell (i := i) (by omega)
      have hrf := hrow.frozen i
      have HROW := Lib.hid hrow
      have hax := h0.getD i
      have hnext := Lib.hid (hrel.out.step h0 hlt)
      by_cases hl2 : i + 1 < a.length
      · have hcb : wr.cell? ⟨b1, o1 + (i + 1), none⟩ = some (.int .u32 ((lim a (i + 1) : Nat) : Int)) := (hbl.cell (p := ⟨b1, o1 + (i + 1), none⟩) hb1).trans (hc1 (i + 1) hl2)
        have hbx := h0.getD (i + 1)
        have hor := half_bits (y := lim a (i + 1)) hax (halfL_eq a i)
        generalize halfL a i = hh at *
        have hX0 : (0 : Int) ≤ ((lim a i : Nat) : Int) := by omega
        have hX1 : ((lim a i : Nat) : Int) < 4294967296 := by omega
        have hY0 : (0 : Int) ≤ ((lim a (i + 1) : Nat) : Int) := by omega
        have hY1 : ((lim a (i + 1) : Nat) : Int) < 4294967296 := by omega
        have hr5 := HROW.out.set' i (lim a i / 2) (z := ((lim a i : Nat) : Int) / 2) (by omega)
        have hb5 := hbl.setCell (p := ⟨w.heap.size, i, none⟩) (Nat.le_refl _) (.int .u32 (((lim a i : Nat) : Int) / 2))
        have hb5' : (wr.setCell ⟨w.heap.size, i, none⟩ (.int .u32 (((lim a i : Nat) : Int) / 2))).cell? ⟨b1, o1 + (i + 1), none⟩ = some (.int .u32 ((lim a (i + 1) : Nat) : Int)) := (hb5.cell (p := ⟨b1, o1 + (i + 1), none⟩) hb1).trans (hc1 (i + 1) hl2)
        have hc5 := hr5.cell (i := i) (by rw [List.length_set]; omega)
        have hf5 := hr5.frozen i
        rw [lim_set_eq (by omega)] at hc5
        have hX2 : ((lim a i / 2 : Nat) : Int) = ((lim a i : Nat) : Int) / 2 := by omega
        rw [hX2] at hc5
        have HR5 := Lib.hid hr5
        have HB5 := Lib.hid hb5
        clear hc1 h6 hv hrow hmk r1 r2 hax hbx hX2 hcb hr5 hb5
        generalize hgX : ((lim a i : Nat) : Int) = X at *
        generalize hgY : ((lim a (i + 1) : Nat) : Int) = Y at *
        generalize hgH : ((hh : Nat) : Int) = H at hor
        have HGX := Lib.hid hgX
        have HGH := Lib.hid hgH
        clear hgX hgY hgH
        go_wp2_with fail
        obtain ⟨w5, hw5⟩ : ∃ w5, wr.setCell ⟨w.heap.size, i, none⟩ (.int .u32 (X / 2)) = w5 := ⟨_, rfl⟩
        rw [hw5] at hb5' hc5 hf5 HR5 HB5 ⊢
        clear hw5
        have hX20 : (0 : Int) ≤ X / 2 := by omega
        have hX21 : X / 2 < 4294967296 := by omega
        clear hX0 hX1 hrc hrf hca
        generalize X / 2 = X2 at *
        go_region
        go_wp2
        go_roundg (a.length - (i + 1))
        case measure => omega
        case rel => exact ⟨i + 1, _, by omega, rfl, by go_num, (HR5.out.set' i hh HGH.out.symm).drew_, by rw [List.set_set]; exact hnext.out, (HB5.out.setCell (Nat.le_refl _) _).drew⟩
      · have hzb : halfL a i = lim a i / 2 := by unfold halfL; rw [getD_ge (show a.length ≤ i + 1 by omega)]; omega
        rw [hzb] at hnext
        have HZB := Lib.hid hzb
        clear hc1 h6 hv hrow hmk r1 r2 hzb
        go_wp2
        go_roundg (a.length - (i + 1))
        case measure => omega
        case rel => exact ⟨i + 1, _, by omega, rfl, by go_num, HROW.out.set' i (lim a i / 2) (by omega), hnext.out, hbl.setCell (Nat.le_refl _) _⟩
    · obtain rfl : i = a.length := by omega
      have hs2 := Sl.of_row (cap := a.length) hrow r2 (by omega) (by omega)
      rw [r1] at hs2
      have hd := hrel.out.done
      rw [hvn.out] at hd
      have HS2 := Lib.hid hs2
      have D1 := Lib.hid hd
      clear hrow hmk r1 hs2 hd
      go_wp2_with fail
      refine (rtrim_c _ _ _ HS2.out).mono ?_
      rw [D1.out]
      rintro e w' ⟨⟨a', cap'', hv, rfl, hs'⟩, rfl⟩
      clear hv
      have HS' := Lib.hid hs'
      clear hs'
      go_wp2
      go_ret
      exact ⟨_, rfl, HS'.out, hbl⟩
end Go.Proofs.Ytjjefdkadgkhfaa

namespace Go.Proofs.Ytjjefdkadgkhfaa
open Go.RowKit

theorem le_two_pow {B i A : Nat} (hB : 0 < B) (h : i + bl B ≤ bl A) : B * 2 ^ i ≤ 2 * A := by
  have h1 := lt_bl B
  rcases Nat.eq_zero_or_pos A with h0 | h0
  · subst h0; rw [bl_zero] at h
    have := bl_pos hB
    omega
  · have h2 := bl_le h0
    have h3 := Nat.pow_le_pow_right (n := 2) (by omega) h
    rw [Nat.pow_add, Nat.mul_comm] at h3
    have : B * 2 ^ i ≤ 2 ^ bl B * 2 ^ i := Nat.mul_le_mul_right _ (by omega)
    omega
theorem QRel.bsize {A B : Nat} {z : Int} {q a b : Nat} (h : QRel A B z q a b) (hB : 0 < B) (hz : 0 ≤ z) (hle : z ≤ (bl A : Int) - bl B) : b ≤ 2 * A := by
  obtain ⟨h1, _⟩ := h.2 hz
  rw [h1]
  exact le_two_pow hB (by omega)
theorem CmpS.ge {m n : Nat} {r : Int} (h : CmpS (limbs m) (limbs n) r) : 0 ≤ r ↔ n ≤ m := by
  obtain ⟨h1, h2, h3⟩ := h
  rcases Nat.lt_trichotomy (limbs m).length (limbs n).length with hl | hl | hl
  · have := h1 hl
    constructor
    · intro h; omega
    · intro h; have := limbs_len_mono h; omega
  · have := h3 hl
    rw [val_limbs, val_limbs] at this
    rcases this with ⟨a, b⟩ | ⟨a, b⟩ | ⟨a, b⟩
    · omega
    · have := limbs_inj a; omega
    · omega
  · have := h2 hl
    constructor
    · intro h
      rcases Nat.lt_or_ge m n with hlt | hge
      · have := limbs_len_mono (Nat.le_of_lt hlt); omega
      · exact hge
    · intro h; omega

set_option maxRecDepth 100000 in
set_option maxHeartbeats 4000000 in
theorem Quotient_c (w : World) (va vb : Value) (x y : Nat) (h : Sl w va (limbs x)) (k : Sl w vb (limbs y)) (hy : 0 < y) (ha : (limbs x).length ≤ 400000) (hb : (limbs y).length ≤ 400000) :
    Calls Try.prog 83 #[va, vb] w (RetDiv w (x / y) (x % y)) := by
  obtain ⟨p, cp, rfl, hp1, hp2⟩ := h.shape
  obtain ⟨q, cq, rfl, hq1, hq2⟩ := k.shape
  have hbx := bl_len x
  have hby := bl_len y
  have hlen : Hid (∀ m, m ≤ 2 * x → (limbs m).length ≤ 800000) := fun m hm => by
    have h1 := limbs_len_mono hm
    have h2 := limbs_add_len x x
    rw [← Nat.two_mul] at h2
    omega
  have HS := Lib.hid h
  have KS := Lib.hid k
  clear h k
  go_enter Try.func83, Try.ntmps83
  go_wp2_with fail
  refine (bits_c _ _ _ HS.out (by omega)).mono ?_
  rintro e w1 ⟨rfl, n1, rfl⟩
  go_wp2_with fail
  refine (bits_c _ _ _ (KS.out.drewN n1) (by omega)).mono ?_
  rintro e w2 ⟨rfl, n2, rfl⟩
  have HS2 := Lib.hid ((HS.out.drewN n1).drewN n2)
  have KS2 := Lib.hid ((KS.out.drewN n1).drewN n2)
  have HB := Lib.hid ((below_drewN w n1 w.heap.size).trans (below_drewN (w.drewN n1) n2 w.heap.size))
  clear HS KS
  generalize (w.drewN n1).drewN n2 = w2 at *
  obtain ⟨s, hs⟩ : ∃ s : Int, s = (bl x : Int) - bl y := ⟨_, rfl⟩
  have hsb1 : s ≤ 12800000 := by omega
  have hsb2 : -12800000 ≤ s := by omega
  have HSE := Lib.hid hs
  clear hs
  go_wp2
  rw [← HSE.out]
  clear hbx hby
  go_loopg [1, 8] s.toNat (fun g b t wx => ∃ (i B : Nat) (p : Option Addr) (cp : Nat), g + i = s.toNat ∧ b = .slice p (limbs B).length cp ∧ t = .int .i64 (i : Int) ∧ Hid (B = y * 2 ^ i) ∧ Hid (Sl wx (.slice p (limbs B).length cp) (limbs B)) ∧ Below w2.heap.size w2 wx)
  case atStart => exact ⟨0, y, q, cq, by omega, rfl, rfl, by rw [Nat.pow_zero, Nat.mul_one]; rfl, KS2.out, Below.refl _ w2⟩
  case round =>
    obtain ⟨i, B, p1, cp1, hgi, rfl, rfl, hB, hsl, hbl⟩ := hrel
    by_cases hlt : (i : Int) < s
    · have hB2 : Hid (B ≤ 2 * x) := by
        have := le_two_pow (B := y) (i := i) (A := x) hy (by have := HSE.out; omega)
        show B ≤ _; rw [hB.out]; exact this
      obtain ⟨p3, cp3, _, _, hp5⟩ := hsl.out.shape
      have hl5 := hlen.out B hB2.out
      have hsl' := hsl
      go_wp2_with fail
      refine (double_c _ _ B false hsl.out (by omega)).mono ?_
      rintro e w3 ⟨v3, rfl, hv3, hb3⟩
      simp only [Bool.toNat_false, Nat.add_zero] at hv3
      obtain ⟨p4, cp4, rfl, hp6, hp7⟩ := hv3.shape
      have HV := Lib.hid hv3
      have hbn := hbl.trans (hb3.mono hbl.size)
      clear hv3 hb3
      go_wp2_with fail
      go_roundg (s.toNat - (i + 1))
      case measure => omega
      case rel => exact ⟨i + 1, 2 * B, p4, cp4, by omega, rfl, by go_num, by show _ = _; rw [hB.out, Nat.pow_succ]; grind, HV.out, hbn⟩
    · have hq := Lib.hid (QRel.start (A := x) (B := y) (b := B) (i := i) (s := s) hy HSE.out (by omega) (by omega) hB.out)
      have HSL := Lib.hid hsl.out
      have HX := Lib.hid (HS2.out.after hbl)
      have HBL := Lib.hid hbl
      clear hsl hB hgi
      obtain ⟨wo, rfl⟩ : ∃ wo : World, wo = wr := ⟨_, rfl⟩
      clear hbl
      go_wp2
      go_loopg [0, 1, 6, 9] (s + 1).toNat (fun g va vb vq t wx => ∃ (z : Int) (Q a b : Nat) (p1 p2 p3 : Option Addr) (c1 c2 c3 : Nat), -12800000 ≤ z ∧ z ≤ s ∧ g = (z + 1).toNat ∧ t = .int .i64 z ∧ va = .slice p1 (limbs a).length c1 ∧ vb = .slice p2 (limbs b).length c2 ∧ vq = .slice p3 (limbs Q).length c3 ∧
        Hid (Sl wx (.slice p1 (limbs a).length c1) (limbs a)) ∧ Hid (Sl wx (.slice p2 (limbs b).length c2) (limbs b)) ∧ Hid (Sl wx (.slice p3 (limbs Q).length c3) (limbs Q)) ∧ Hid (QRel x y z Q a b) ∧ Below w2.heap.size w2 wx)
      case atStart => exact ⟨s, 0, x, B, p, p1, none, cp, cp1, 0, hsb2, by omega, rfl, rfl, rfl, rfl, by simp [limbs_zero], HX.out, HSL.out, by rw [limbs_zero]; exact Sl.nil _, hq.out, HBL.out⟩
      case round =>
        obtain ⟨z, Q, a, b, p1, p2, p3, c1, c2, c3, hz1, hz2, rfl, rfl, rfl, rfl, rfl, h1, h2, h3, hr, hbl⟩ := hrel
        clear HX HSL HBL hq
        have hsz := hr.out.size hy
        have ha1 := limbs_len_mono hsz.2
        have hq1 := limbs_len_mono hsz.1
        rcases Int.lt_or_le z 0 with hz | hz
        · have hd := Lib.hid (hr.out.done hz)
          go_wp2_with fail
          go_ret2
          exact ⟨_, _, rfl, by rw [← hd.out.1]; exact h3.out, by rw [← hd.out.2]; exact h1.out, HB.out.trans (hbl.mono HB.out.size)⟩
        · have hb1 := hlen.out b (hr.out.bsize hy hz (by rw [← HSE.out]; exact hz2))
          have hQ9 : (limbs Q).length ≤ 900000 := Nat.le_trans hq1 (Nat.le_trans ha (by decide))
          have hb9 : (limbs b).length ≤ 1000000 := Nat.le_trans hb1 (by decide)
          have ha9 : (limbs a).length ≤ 1000000 := Nat.le_trans ha1 (Nat.le_trans ha (by decide))
          have hme : Hid ((z - 1 + 1).toNat < (z + 1).toNat) := by show _ < _; omega
          have hzz1 : Hid (-12800000 ≤ z - 1) := by show _ ≤ _; omega
          have hzz2 : Hid (z - 1 ≤ s) := by show _ ≤ _; omega
          obtain ⟨_, _, _, hx1, hx2⟩ := h1.out.shape
          obtain ⟨_, _, _, hx3, hx4⟩ := h2.out.shape
          obtain ⟨_, _, _, hx5, hx6⟩ := h3.out.shape
          clear hsz
          go_wp2_with fail
          refine (Compare_c _ _ _ _ _ h1.out h2.out).mono ?_
          rintro e w3 ⟨r, rfl, hcr, n3, rfl⟩
          have hge := Lib.hid hcr.ge
          clear hcr
          have h1d := Lib.hid (h1.out.drewN n3)
          have h2d := Lib.hid (h2.out.drewN n3)
          have h3d := Lib.hid (h3.out.drewN n3)
          have hbd := Lib.hid (hbl.trans (below_drewN wr n3 _))
          clear h1 h2 h3 hbl
          generalize wr.drewN n3 = w3 at *
          rcases Int.lt_or_le r 0 with hr0 | hr0
          · have hdec : decide (0 ≤ r) = false := decide_eq_false (Int.not_le.2 hr0)
            have hnext := Lib.hid (hr.out.no hz (Nat.not_le.1 (fun hh => absurd (hge.out.2 hh) (Int.not_le.2 hr0))))
            go_wp2_with fail
            refine (double_c _ _ Q false h3d.out hQ9).mono ?_
            rintro e w4 ⟨v4, rfl, hv4, hb4⟩
            simp only [Bool.toNat_false, Nat.add_zero] at hv4
            obtain ⟨p4, cp4, rfl, hp6, hp7⟩ := hv4.shape
            have HV := Lib.hid hv4
            have h1e := Lib.hid (h1d.out.after hb4)
            have h2e := Lib.hid (h2d.out.after hb4)
            have hbe := Lib.hid (hbd.out.trans (hb4.mono hbd.out.size))
            clear hv4 hb4 h1d h2d h3d hbd
            go_wp2_with fail
            refine (half_c _ _ b h2e.out hb9).mono ?_
            rintro e w5 ⟨v5, rfl, hv5, hb5⟩
            obtain ⟨p5, cp5, rfl, hp8, hp9⟩ := hv5.shape
            have HV5 := Lib.hid hv5
            have h1f := Lib.hid (h1e.out.after hb5)
            have hqf := Lib.hid (HV.out.after hb5)
            have hbf := Lib.hid (hbe.out.trans (hb5.mono hbe.out.size))
            clear hv5 hb5 h1e h2e HV hbe
            go_wp2_with fail
            go_roundg ((z - 1) + 1).toNat
            case measure => exact hme.out
            case rel => exact ⟨z - 1, 2 * Q, a, b / 2, p1, p5, p4, c1, cp5, cp4, hzz1.out, hzz2.out, rfl, by go_num, rfl, rfl, rfl, h1f.out, HV5.out, hqf.out, hnext.out, hbf.out⟩
          · have hdec : decide (0 ≤ r) = true := decide_eq_true hr0
            have hba := Lib.hid (hge.out.1 hr0)
            have hnext := Lib.hid (hr.out.yes hz hba.out)
            have hlen2 := limbs_len_mono hba.out
            go_wp2_with fail
            refine (Diff_c _ _ _ _ _ h1d.out h2d.out hlen2 (by rw [val_limbs, val_limbs]; exact hba.out) ha9).mono ?_
            rw [val_limbs, val_limbs]
            rintro e w4 ⟨v4, rfl, hv4, hb4⟩
            obtain ⟨p4, cp4, rfl, hp6, hp7⟩ := hv4.shape
            have HV := Lib.hid hv4
            have h2e := Lib.hid (h2d.out.after hb4)
            have h3e := Lib.hid (h3d.out.after hb4)
            have hbe := Lib.hid (hbd.out.trans (hb4.mono hbd.out.size))
            clear hv4 hb4 h1d h2d h3d hbd
            go_wp2_with fail
            refine (double_c _ _ Q true h3e.out hQ9).mono ?_
            rintro e w5 ⟨v5, rfl, hv5, hb5⟩
            simp only [Bool.toNat_true] at hv5
            obtain ⟨p5, cp5, rfl, hp8, hp9⟩ := hv5.shape
            have HV5 := Lib.hid hv5
            have h1f := Lib.hid (HV.out.after hb5)
            have h2f := Lib.hid (h2e.out.after hb5)
            have hbf := Lib.hid (hbe.out.trans (hb5.mono hbe.out.size))
            clear hv5 hb5 HV h2e h3e hbe
            go_wp2_with fail
            refine (half_c _ _ b h2f.out hb9).mono ?_
            rintro e w6 ⟨v6, rfl, hv6, hb6⟩
            obtain ⟨p6, cp6, rfl, hp10, hp11⟩ := hv6.shape
            have HV6 := Lib.hid hv6
            have h1g := Lib.hid (h1f.out.after hb6)
            have hqg := Lib.hid (HV5.out.after hb6)
            have hbg := Lib.hid (hbf.out.trans (hb6.mono hbf.out.size))
            clear hv6 hb6 h1f h2f HV5 hbf
            go_wp2_with fail
            go_roundg ((z - 1) + 1).toNat
            case measure => exact hme.out
            case rel => exact ⟨z - 1, 2 * Q + 1, a - b, b / 2, p4, p6, p5, cp4, cp6, cp5, hzz1.out, hzz2.out, rfl, by go_num, rfl, rfl, rfl, h1g.out, HV6.out, hqg.out, hnext.out, hbg.out⟩
end Go.Proofs.Ytjjefdkadgkhfaa

namespace Go.Proofs.Ytjjefdkadgkhfaa
open Go.RowKit

set_option maxRecDepth 100000 in
set_option maxHeartbeats 1000000 in
theorem Gcd_c (w : World) (va vb : Value) (x y : Nat) (h : Sl w va (limbs x)) (k : Sl w vb (limbs y)) (ha : (limbs x).length ≤ 400000) (hb : (limbs y).length ≤ 400000) :
    Calls Try.prog 82 #[va, vb] w (RetNat w (Nat.gcd x y)) := by
  obtain ⟨p, cp, rfl, hp1, hp2⟩ := h.shape
  obtain ⟨q, cq, rfl, hq1, hq2⟩ := k.shape
  have HS := Lib.hid h
  have KS := Lib.hid k
  clear h k
  go_enter Try.func82, Try.ntmps82
  go_wp2
  go_loopg [0, 1] y (fun g a b wx => ∃ (X : Nat) (p q : Option Addr) (cp cq : Nat), a = .slice p (limbs X).length cp ∧ b = .slice q (limbs g).length cq ∧ Hid (Sl wx (.slice p (limbs X).length cp) (limbs X)) ∧ Hid (Sl wx (.slice q (limbs g).length cq) (limbs g)) ∧
    (limbs X).length ≤ 400000 ∧ (limbs g).length ≤ 400000 ∧ Hid (Nat.gcd x y = Nat.gcd X g) ∧ Below w.heap.size w wx)
  case atStart => exact ⟨x, p, q, cp, cq, rfl, rfl, HS.out, KS.out, ha, hb, rfl, Below.refl _ w⟩
  case round =>
    obtain ⟨X, p', q', cp', cq', rfl, rfl, h1, h2, h3, h4, hg, hbl⟩ := hrel
    clear HS KS
    rcases Nat.eq_zero_or_pos gk with hz | hpos
    · subst hz
      have e0 : (limbs 0).length = 0 := by rw [limbs_zero]; rfl
      go_wp2_with fail
      go_ret
      refine ⟨_, rfl, ?_, hbl⟩
      rw [hg.out, Nat.gcd_zero_right]
      exact h1.out
    · have hl := limbs_len_pos hpos
      go_wp2_with fail
      refine (Quotient_c _ _ _ X gk h1.out h2.out hpos h3 h4).mono ?_
      rintro e w1 ⟨v, u, rfl, hv, hu, hb1⟩
      obtain ⟨p2, cp2, rfl, hp3, hp4⟩ := hu.shape
      have h2' := h2.out.after hb1
      have hm : X % gk < gk := Nat.mod_lt _ hpos
      have hml := limbs_len_mono (Nat.le_of_lt hm)
      have HU := Lib.hid hu
      have H2 := Lib.hid h2'
      generalize hmm : X % gk = mm at *
      have HMM := Lib.hid hmm
      have hbb := hbl.size
      have hbn := hbl.trans (hb1.mono hbb)
      clear hv hu h2' hmm
      go_wp2_with fail
      go_roundg mm
      case measure => exact hm
      case rel => exact ⟨gk, q', p2, cq', cp2, rfl, rfl, H2.out, HU.out, h4, by omega, by rw [hg.out, ← HMM.out]; exact (Nat.gcd_comm X gk).trans ((Nat.gcd_rec gk X).trans (Nat.gcd_comm _ _)), hbn⟩

theorem Gcd_l (w : World) (va vb : Value) (A B : List Nat) (h : Sl w va A) (k : Sl w vb B) (ca : Canon A) (cb : Canon B) (ha : A.length ≤ 400000) (hb : B.length ≤ 400000) :
    Calls Try.prog 82 #[va, vb] w (RetNat w (Nat.gcd (val A) (val B))) := by
  unfold Canon at ca cb
  refine Gcd_c w va vb (val A) (val B) (by rw [← ca]; exact h) (by rw [← cb]; exact k) (by rw [← ca]; exact ha) (by rw [← cb]; exact hb)

end Go.Proofs.Ytjjefdkadgkhfaa

namespace Go.Proofs.Ytjjefdkadgkhfaa
open Go.RowKit

theorem Box.set {w : World} {b : Nat} {cs : Array Value} {t : TypeId} (h : Box w b cs t) (i : Nat) (u : Value) : Box (w.setCell ⟨b, i, none⟩ u) b (cs.setIfInBounds i u) t := by
  unfold Box at h ⊢
  simp [World.setCell, Array.getElem?_modify, h]
theorem Box.far {w : World} {b : Nat} {cs : Array Value} {t : TypeId} (h : Box w b cs t) {p : Addr} (hp : b ≠ p.block) (u : Value) : Box (w.setCell p u) b cs t := (Below.heap_setCell w p u b hp).trans h
theorem Box.drewN {w : World} {b : Nat} {cs : Array Value} {t : TypeId} (h : Box w b cs t) (n : Nat) : Box (w.drewN n) b cs t := h
/-- No cell of these is a limb. -/
def NoU (cs : Array Value) : Prop := ∀ (i : Nat) (x : Int), cs[i]? ≠ some (.int .u32 x)
theorem NoU.three {a b c : Value} (ha : ∀ x, a ≠ .int .u32 x) (hb : ∀ x, b ≠ .int .u32 x) (hc : ∀ x, c ≠ .int .u32 x) : NoU #[a, b, c] := by
  intro i x
  match i with
  | 0 => simpa using ha x
  | 1 => simpa using hb x
  | 2 => simpa using hc x
  | k + 3 => simp
/-- A store into a block without limbs leaves what a slice of limbs reads. -/
theorem Sl.box {w : World} {v : Value} {l : List Nat} {b : Nat} {cs : Array Value} {t : TypeId} (h : Sl w v l) (hb : Box w b cs t) (hn : NoU cs) (i : Nat) (u : Value) : Sl (w.setCell ⟨b, i, none⟩ u) v l := by
  obtain ⟨h0, a, cap, h1, h2, h3, h5, h6⟩ := h
  refine ⟨h0, a, cap, h1, h2, h3, ⟨h5.1, fun hl b' off ha => ?_⟩, fun hl => ?_⟩
  · obtain ⟨b2, off2, ha2, _, hc⟩ := h6 hl
    have hne : b' ≠ b := by
      rintro rfl
      rw [ha] at ha2
      injection ha2 with e; injection e with e1 e2
      subst e1; subst e2
      have e1 := hc 0 hl
      rw [hb.cell] at e1
      exact hn _ _ e1
    obtain ⟨cs', fz, ht⟩ := h5.2 hl b' off ha
    exact ⟨cs', fz, (Below.heap_setCell w ⟨b, i, none⟩ u b' hne).trans ht⟩
  obtain ⟨b', off, ha, hlt, hc⟩ := h6 hl
  have hne : b' ≠ b := by
    rintro rfl
    have e1 := hc 0 hl
    rw [hb.cell] at e1
    exact hn _ _ e1
  refine ⟨b', off, ha, by simpa [World.setCell] using hlt, fun j hj => ?_⟩
  rw [← hc j hj]
  exact World.cell?_setCell_other w ⟨b, i, none⟩ ⟨b', off + j, none⟩ u (fun e => hne (by injection e with e1; exact e1.symm))
theorem IsF.result {w : World} {va vb : Value} {neg n0 : Bool} {A B : List Nat} {b : Nat} {x1 x2 : Value} {t : TypeId} (hb : Box w b #[.bool n0, x1, x2] t) (hx1 : ∀ x, x1 ≠ .int .u32 x) (hx2 : ∀ x, x2 ≠ .int .u32 x)
    (h1 : Sl w va A) (h2 : Sl w vb B) :
    IsF (((w.setCell ⟨b, 0, none⟩ (.bool neg)).setCell ⟨b, 1, none⟩ va).setCell ⟨b, 2, none⟩ vb) (.agg #[.bool neg, va, vb]) ⟨neg, A, B⟩ := by
  obtain ⟨p, cp, e1, _⟩ := h1.shape
  obtain ⟨q, cq, e2, _⟩ := h2.shape
  have n0' : NoU #[.bool n0, x1, x2] := NoU.three (fun _ h => by cases h) hx1 hx2
  have b1 : Box (w.setCell ⟨b, 0, none⟩ (.bool neg)) b #[.bool neg, x1, x2] t := hb.set 0 _
  have n1 : NoU #[.bool neg, x1, x2] := NoU.three (fun _ h => by cases h) hx1 hx2
  have b2 : Box ((w.setCell ⟨b, 0, none⟩ (.bool neg)).setCell ⟨b, 1, none⟩ va) b #[.bool neg, va, x2] t := b1.set 1 va
  have n2 : NoU #[.bool neg, va, x2] := NoU.three (fun _ h => by cases h) (fun _ h => by rw [e1] at h; cases h) hx2
  exact ⟨va, vb, rfl, ((h1.box hb n0' 0 _).box b1 n1 1 va).box b2 n2 2 vb, ((h2.box hb n0' 0 _).box b1 n1 1 va).box b2 n2 2 vb⟩
end Go.Proofs.Ytjjefdkadgkhfaa
