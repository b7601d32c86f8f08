/- Walks: common, Valid, reduced, Of.
   Memory words, more: a result struct that is written field by field, beside numbers that lie elsewhere.
   Memory words, more: rows of fractions.
   Walks: reduced and its closure, Of.
   Walks: reduced, Of, both, turned. -/
import Derived.Test.YtebmegodeglobaaK05
import Derived.Deep.DeepCutAuto
import Derived.Deep.LoopGhost
set_option linter.unusedVariables false
namespace Go.Proofs.Ytebmegodeglobaa
open Go.RowKit

theorem Sl.shape {w : World} {v : Value} {l : List Nat} (h : Sl w v l) : ∃ a cap, v = .slice a l.length cap ∧ l.length ≤ cap ∧ cap ≤ 9223372036854775807 := by
  obtain ⟨_, a, cap, h1, h2, h3, _, _⟩ := h
  exact ⟨a, cap, h1, h2, h3⟩

set_option maxRecDepth 100000 in
set_option maxHeartbeats 1000000 in
theorem common_c (w : World) (va vb : Value) (x y : Nat) (h : Sl w va (limbs x)) (k : Sl w vb (limbs y)) (ha : (limbs x).length ≤ 1000000) (hb : (limbs y).length ≤ 1000000) :
    Calls Try.prog 56 #[va, vb] w (RetNat w (Nat.gcd x y)) := by
  obtain ⟨p, cp, rfl, hp1, hp2⟩ := h.shape
  obtain ⟨q, cq, rfl, hq1, hq2⟩ := k.shape
  have HS := Lib.hid h
  have KS := Lib.hid k
  clear h k
  go_enter Try.func56, Try.ntmps56
  go_wp2
  go_loopg [0, 1] y (fun g a b wx => ∃ (X : Nat) (p q : Option Addr) (cp cq : Nat), a = .slice p (limbs X).length cp ∧ b = .slice q (limbs g).length cq ∧ Hid (Sl wx (.slice p (limbs X).length cp) (limbs X)) ∧ Hid (Sl wx (.slice q (limbs g).length cq) (limbs g)) ∧
    (limbs X).length ≤ 1000000 ∧ (limbs g).length ≤ 1000000 ∧ Hid (Nat.gcd x y = Nat.gcd X g) ∧ Below w.heap.size w wx)
  case atStart => exact ⟨x, p, q, cp, cq, rfl, rfl, HS.out, KS.out, ha, hb, rfl, Below.refl _ w⟩
  case round =>
    obtain ⟨X, p', q', cp', cq', rfl, rfl, h1, h2, h3, h4, hg, hbl⟩ := hrel
    clear HS KS
    rcases Nat.eq_zero_or_pos gk with hz | hpos
    · subst hz
      have e0 : (limbs 0).length = 0 := by rw [limbs_zero]; rfl
      go_wp2_with fail
      go_ret
      refine ⟨_, rfl, ?_, hbl⟩
      rw [hg.out, Nat.gcd_zero_right]
      exact h1.out
    · have hl := limbs_len_pos hpos
      go_wp2_with fail
      refine (divide_c _ _ _ X gk h1.out h2.out hpos h3).mono ?_
      rintro e w1 ⟨v, u, rfl, hv, hu, hb1⟩
      obtain ⟨p2, cp2, rfl, hp3, hp4⟩ := hu.shape
      have h2' := h2.out.after hb1
      have hm : X % gk < gk := Nat.mod_lt _ hpos
      have hml := limbs_len_mono (Nat.le_of_lt hm)
      have HU := Lib.hid hu
      have H2 := Lib.hid h2'
      generalize hmm : X % gk = mm at *
      have HMM := Lib.hid hmm
      have hbb := hbl.size
      have hbn := hbl.trans (hb1.mono hbb)
      clear hv hu h2' hmm
      go_wp2_with fail
      go_roundg mm
      case measure => exact hm
      case rel => exact ⟨gk, q', p2, cq', cp2, rfl, rfl, H2.out, HU.out, h4, by omega, by rw [hg.out, ← HMM.out]; exact (Nat.gcd_comm X gk).trans ((Nat.gcd_rec gk X).trans (Nat.gcd_comm _ _)), hbn⟩

theorem common_l (w : World) (va vb : Value) (A B : List Nat) (h : Sl w va A) (k : Sl w vb B) (ca : Canon A) (cb : Canon B) (ha : A.length ≤ 1000000) (hb : B.length ≤ 1000000) :
    Calls Try.prog 56 #[va, vb] w (RetNat w (Nat.gcd (val A) (val B))) := by
  unfold Canon at ca cb
  refine common_c w va vb (val A) (val B) (by rw [← ca]; exact h) (by rw [← cb]; exact k) (by rw [← ca]; exact ha) (by rw [← cb]; exact hb)

/-- A value reads as a fraction. -/
def IsF (w : World) (v : Value) (x : F) : Prop := ∃ va vb, v = .agg #[.bool x.neg, va, vb] ∧ Sl w va x.num ∧ Sl w vb x.den
theorem IsF.after {w w' : World} {v : Value} {x : F} (h : IsF w v x) (hb : Below w.heap.size w w') : IsF w' v x := by
  obtain ⟨va, vb, h1, h2, h3⟩ := h
  exact ⟨va, vb, h1, h2.after hb, h3.after hb⟩
theorem IsF.alloc {w : World} {v : Value} {x : F} (h : IsF w v x) (o : Obj) : IsF (w.alloc o) v x := h.after ((Below.refl _ w).alloc (Nat.le_refl _) o)
theorem IsF.drewN {w : World} {v : Value} {x : F} (h : IsF w v x) (n : Nat) : IsF (w.drewN n) v x := h
theorem IsF.zero (w : World) : IsF w (.agg #[.bool false, .slice none 0 0, .slice none 0 0]) F0 := ⟨_, _, rfl, Sl.nil w, Sl.nil w⟩
/-- The results are a fraction and an error. -/
def RetF (w : World) (r : F × Int) (e : Ending) (w' : World) : Prop := ∃ v, e = .returned (.tuple #[v, .int .i64 r.2]) ∧ IsF w' v r.1 ∧ Below w.heap.size w w'
/-- The result is a fraction. -/
def RetF1 (w : World) (r : F) (e : Ending) (w' : World) : Prop := ∃ v, e = .returned v ∧ IsF w' v r ∧ Below w.heap.size w w'

theorem RetB.yes {w : World} {p : Prop} {e : Ending} {w' : World} (h : RetB w p e w') (hp : p) : e = .returned (.bool true) ∧ ∃ n, w' = w.drewN n := by
  obtain ⟨r, rfl, hr, hw⟩ := h
  rw [hr.2 hp]; exact ⟨rfl, hw⟩
theorem RetB.no {w : World} {p : Prop} {e : Ending} {w' : World} (h : RetB w p e w') (hp : ¬ p) : e = .returned (.bool false) ∧ ∃ n, w' = w.drewN n := by
  obtain ⟨r, rfl, hr, hw⟩ := h
  cases r with
  | true => exact absurd (hr.1 rfl) hp
  | false => exact ⟨rfl, hw⟩
theorem RetC.yes {w : World} {p : Prop} {e : Ending} {w' : World} (h : RetC w p e w') (hp : p) : e = .returned (.bool true) ∧ Below w.heap.size w w' := by
  obtain ⟨r, rfl, hr, hw⟩ := h
  rw [hr.2 hp]; exact ⟨rfl, hw⟩
theorem RetC.no {w : World} {p : Prop} {e : Ending} {w' : World} (h : RetC w p e w') (hp : ¬ p) : e = .returned (.bool false) ∧ Below w.heap.size w w' := by
  obtain ⟨r, rfl, hr, hw⟩ := h
  cases r with
  | true => exact absurd (hr.1 rfl) hp
  | false => exact ⟨rfl, hw⟩

/-- A cell that a function has laid for a struct of its own, after calls that leave what was there. -/
theorem old_cells {W w1 : World} (hb : Below W.heap.size W w1) : (∀ b o, b < W.heap.size → w1.cell? ⟨b, o, none⟩ = W.cell? ⟨b, o, none⟩) ∧ (∀ b o, b < W.heap.size → w1.frozen? ⟨b, o, none⟩ = W.frozen? ⟨b, o, none⟩) :=
  ⟨fun b o h => hb.cell (p := ⟨b, o, none⟩) h, fun b o h => hb.frozen (p := ⟨b, o, none⟩) h⟩

set_option maxRecDepth 100000 in
set_option maxHeartbeats 1000000 in
theorem Valid_c (w : World) (v : Value) (x : F) (h : IsF w v x) : Calls Try.prog 58 #[v] w (RetC w (ValidF x)) := by
  obtain ⟨va, vb, rfl, h1, h2⟩ := h
  obtain ⟨neg, A, B⟩ := x
  simp only at h1 h2 ⊢
  obtain ⟨p, cp, rfl, hp1, hp2⟩ := h1.shape
  obtain ⟨q, cq, rfl, hq1, hq2⟩ := h2.shape
  have W1 := (Below.refl w.heap.size w).alloc (Nat.le_refl _) (.cells #[.bool neg, .slice p A.length cp, .slice q B.length cq] 26)
  have g1 := h1.alloc (.cells #[.bool neg, .slice p A.length cp, .slice q B.length cq] 26)
  have g2 := h2.alloc (.cells #[.bool neg, .slice p A.length cp, .slice q B.length cq] 26)
  have H1 := Lib.hid g1
  have H2 := Lib.hid g2
  clear h1 h2 g1 g2
  by_cases hA : A.length ≤ 32 ∧ Canon A
  · by_cases hB : B.length ≤ 32 ∧ Canon B
    · have hA' := Lib.hid hA
      have hB' := Lib.hid hB
      clear hA hB
      rcases Nat.lt_or_ge 0 B.length |>.symm with hb0 | hb0
      · have hno : ¬ ValidF ⟨neg, A, B⟩ := fun hv => by
          have e : B = [] := List.length_eq_zero_iff.1 (by omega)
          have := hv.2.2.pos
          rw [e] at this
          simp [val] at this
        have hno' := Lib.hid hno
        clear hno
        go_enter Try.func58, Try.ntmps58
        go_wp2_with fail
        refine (proper_c _ _ _ H1.out).mono ?_
        intro e w' hr
        obtain ⟨rfl, n, rfl⟩ := hr.yes hA'.out
        clear hr
        go_wp2_with fail
        refine (proper_c _ _ _ (H2.out.drewN n)).mono ?_
        intro e w' hr
        obtain ⟨rfl, n2, rfl⟩ := hr.yes hB'.out
        clear hr
        go_wp2_with fail
        go_ret
        exact ⟨false, rfl, by simp [hno'.out], W1.trans (below_drewN _ _ _)⟩
      · rcases Nat.lt_or_ge 0 A.length |>.symm with ha0 | ha0
        · have hA0 : Hid (A = []) := List.length_eq_zero_iff.1 (by omega)
          cases neg with
          | true =>
            have hno : Hid (¬ ValidF ⟨true, A, B⟩) := fun hv => by
              have h := hv.2.2.sign
              rw [hA0.out] at h
              exact absurd (h rfl) (by simp)
            go_enter Try.func58, Try.ntmps58
            go_wp2_with fail
            refine (proper_c _ _ _ H1.out).mono ?_
            intro e w' hr
            obtain ⟨rfl, n, rfl⟩ := hr.yes hA'.out
            clear hr
            go_wp2_with fail
            refine (proper_c _ _ _ (H2.out.drewN n)).mono ?_
            intro e w' hr
            obtain ⟨rfl, n2, rfl⟩ := hr.yes hB'.out
            clear hr
            go_wp2_with fail
            go_ret
            exact ⟨false, rfl, by simp [hno.out], W1.trans (below_drewN _ _ _)⟩
          | false =>
            have hiff : Hid (B = [1] ↔ ValidF ⟨false, A, B⟩) := by
              constructor
              · intro hb
                refine ⟨hA'.out.2, hB'.out.2, ?_⟩
                rw [hA0.out, hb]
                exact ⟨by simp [val, limbs_zero], by simp [val, limbs_one], by simp [val], by simp [val], fun _ => rfl⟩
              · intro hv
                have hg := hv.2.2.gcd
                rw [hA0.out] at hg
                simp only [val, Nat.gcd_zero_left] at hg
                have := hv.2.1
                unfold Canon at this
                simp only at this
                rw [hg, limbs_one] at this
                exact this
            go_enter Try.func58, Try.ntmps58
            go_wp2_with fail
            refine (proper_c _ _ _ H1.out).mono ?_
            intro e w' hr
            obtain ⟨rfl, n, rfl⟩ := hr.yes hA'.out
            clear hr
            go_wp2_with fail
            refine (proper_c _ _ _ (H2.out.drewN n)).mono ?_
            intro e w' hr
            obtain ⟨rfl, n2, rfl⟩ := hr.yes hB'.out
            clear hr
            go_wp2_with fail
            refine (one_c _ _ _ (H2.out.drewN _)).mono ?_
            rintro e w' ⟨r, rfl, hr, n3, rfl⟩
            have HR := Lib.hid hr
            clear hr
            go_wp2_with fail
            go_ret
            exact ⟨r, rfl, HR.out.trans hiff.out, W1.trans (below_drewN _ _ _)⟩
        · have hiff : Hid (limbs (Nat.gcd (val A) (val B)) = [1] ↔ ValidF ⟨neg, A, B⟩) := by
            constructor
            · intro hg
              have hg1 : Nat.gcd (val A) (val B) = 1 := limbs_inj (by rw [hg, limbs_one])
              have ea := hA'.out.2
              have eb := hB'.out.2
              refine ⟨ea, eb, ⟨?_, ?_, ?_, hg1, ?_⟩⟩
              · unfold Canon at ea; show (limbs (val A)).length ≤ 32; rw [← ea]; exact hA'.out.1
              · unfold Canon at eb; show (limbs (val B)).length ≤ 32; rw [← eb]; exact hB'.out.1
              · unfold Canon at eb; rw [eb] at hb0
                show 0 < val B
                rcases Nat.eq_zero_or_pos (val B) with h0 | h0
                · rw [h0, limbs_zero] at hb0; simp at hb0
                · exact h0
              · intro h0
                unfold Canon at ea; rw [ea] at ha0
                simp only at h0
                rw [h0, limbs_zero] at ha0; simp at ha0
            · intro hv
              rw [hv.2.2.gcd, limbs_one]
          have ea := hA'.out.2
          have eb := hB'.out.2
          have la := hA'.out.1
          have lb := hB'.out.1
          have HEA := Lib.hid ea
          have HEB := Lib.hid eb
          clear ea eb
          go_enter Try.func58, Try.ntmps58
          go_wp2_with fail
          refine (proper_c _ _ _ H1.out).mono ?_
          intro e w' hr
          obtain ⟨rfl, n, rfl⟩ := hr.yes hA'.out
          clear hr
          go_wp2_with fail
          refine (proper_c _ _ _ (H2.out.drewN n)).mono ?_
          intro e w' hr
          obtain ⟨rfl, n2, rfl⟩ := hr.yes hB'.out
          clear hr
          go_wp2_with fail
          refine (common_l _ _ _ _ _ (H1.out.drewN _) (H2.out.drewN _) HEA.out HEB.out (by omega) (by omega)).mono ?_
          rintro e w1 ⟨g, rfl, hg, hb1⟩
          have HG := Lib.hid hg
          clear hg
          go_wp2_with fail
          refine (one_c _ _ _ HG.out).mono ?_
          rintro e w' ⟨r, rfl, hr, n3, rfl⟩
          have HR := Lib.hid hr
          have HB := Lib.hid hb1
          clear hr hb1
          go_wp2_with fail
          go_ret
          exact ⟨r, rfl, HR.out.trans hiff.out, ((W1.trans (below_drewN _ _ _)).trans (HB.out.mono (by simp))).trans (below_drewN _ _ _)⟩
    · have hno : ¬ ValidF ⟨neg, A, B⟩ := fun hv => hB ⟨by have := hv.2.2.d32; have e := hv.2.1; unfold Canon at e; rw [← e] at this; exact this, hv.2.1⟩
      have hA' := Lib.hid hA
      have hB' := Lib.hid hB
      have hno' := Lib.hid hno
      clear hA hB hno
      go_enter Try.func58, Try.ntmps58
      go_wp2_with fail
      refine (proper_c _ _ _ H1.out).mono ?_
      intro e w' hr
      obtain ⟨rfl, n, rfl⟩ := hr.yes hA'.out
      clear hr
      go_wp2_with fail
      refine (proper_c _ _ _ (H2.out.drewN n)).mono ?_
      intro e w' hr
      obtain ⟨rfl, n2, rfl⟩ := hr.no hB'.out
      clear hr
      go_wp2_with fail
      go_ret
      exact ⟨false, rfl, by simp [hno'.out], W1.trans (below_drewN _ _ _)⟩
  · have hno : ¬ ValidF ⟨neg, A, B⟩ := fun hv => hA ⟨by have := hv.2.2.n32; have e := hv.1; unfold Canon at e; rw [← e] at this; exact this, hv.1⟩
    have hA' := Lib.hid hA
    have hno' := Lib.hid hno
    clear hA hno
    go_enter Try.func58, Try.ntmps58
    go_wp2_with fail
    refine (proper_c _ _ _ H1.out).mono ?_
    intro e w' hr
    obtain ⟨rfl, n, rfl⟩ := hr.no hA'.out
    clear hr
    go_wp2_with fail
    go_ret
    exact ⟨false, rfl, by simp [hno'.out], W1.trans (below_drewN _ n _)⟩
end Go.Proofs.Ytebmegodeglobaa

namespace Go.Proofs.Ytebmegodeglobaa
open Go.RowKit

theorem Box.set {w : World} {b : Nat} {cs : Array Value} {t : TypeId} (h : Box w b cs t) (i : Nat) (u : Value) : Box (w.setCell ⟨b, i, none⟩ u) b (cs.setIfInBounds i u) t := by
  unfold Box at h ⊢
  simp [World.setCell, Array.getElem?_modify, h]
theorem Box.far {w : World} {b : Nat} {cs : Array Value} {t : TypeId} (h : Box w b cs t) {p : Addr} (hp : b ≠ p.block) (u : Value) : Box (w.setCell p u) b cs t := (Below.heap_setCell w p u b hp).trans h
theorem Box.drewN {w : World} {b : Nat} {cs : Array Value} {t : TypeId} (h : Box w b cs t) (n : Nat) : Box (w.drewN n) b cs t := h
/-- No cell of these is a limb. -/
def NoU (cs : Array Value) : Prop := ∀ (i : Nat) (x : Int), cs[i]? ≠ some (.int .u32 x)
theorem NoU.three {a b c : Value} (ha : ∀ x, a ≠ .int .u32 x) (hb : ∀ x, b ≠ .int .u32 x) (hc : ∀ x, c ≠ .int .u32 x) : NoU #[a, b, c] := by
  intro i x
  match i with
  | 0 => simpa using ha x
  | 1 => simpa using hb x
  | 2 => simpa using hc x
  | k + 3 => simp
/-- A store into a block without limbs leaves what a slice of limbs reads. -/
theorem Sl.box {w : World} {v : Value} {l : List Nat} {b : Nat} {cs : Array Value} {t : TypeId} (h : Sl w v l) (hb : Box w b cs t) (hn : NoU cs) (i : Nat) (u : Value) : Sl (w.setCell ⟨b, i, none⟩ u) v l := by
  obtain ⟨h0, a, cap, h1, h2, h3, h5, h6⟩ := h
  refine ⟨h0, a, cap, h1, h2, h3, ⟨h5.1, fun hl b' off ha => ?_⟩, fun hl => ?_⟩
  · obtain ⟨b2, off2, ha2, _, hc⟩ := h6 hl
    have hne : b' ≠ b := by
      rintro rfl
      rw [ha] at ha2
      injection ha2 with e; injection e with e1 e2
      subst e1; subst e2
      have e1 := hc 0 hl
      rw [hb.cell] at e1
      exact hn _ _ e1
    obtain ⟨cs', fz, ht⟩ := h5.2 hl b' off ha
    exact ⟨cs', fz, (Below.heap_setCell w ⟨b, i, none⟩ u b' hne).trans ht⟩
  obtain ⟨b', off, ha, hlt, hc⟩ := h6 hl
  have hne : b' ≠ b := by
    rintro rfl
    have e1 := hc 0 hl
    rw [hb.cell] at e1
    exact hn _ _ e1
  refine ⟨b', off, ha, by simpa [World.setCell] using hlt, fun j hj => ?_⟩
  rw [← hc j hj]
  exact World.cell?_setCell_other w ⟨b, i, none⟩ ⟨b', off + j, none⟩ u (fun e => hne (by injection e with e1; exact e1.symm))
theorem IsF.result {w : World} {va vb : Value} {neg n0 : Bool} {A B : List Nat} {b : Nat} {x1 x2 : Value} {t : TypeId} (hb : Box w b #[.bool n0, x1, x2] t) (hx1 : ∀ x, x1 ≠ .int .u32 x) (hx2 : ∀ x, x2 ≠ .int .u32 x)
    (h1 : Sl w va A) (h2 : Sl w vb B) :
    IsF (((w.setCell ⟨b, 0, none⟩ (.bool neg)).setCell ⟨b, 1, none⟩ va).setCell ⟨b, 2, none⟩ vb) (.agg #[.bool neg, va, vb]) ⟨neg, A, B⟩ := by
  obtain ⟨p, cp, e1, _⟩ := h1.shape
  obtain ⟨q, cq, e2, _⟩ := h2.shape
  have n0' : NoU #[.bool n0, x1, x2] := NoU.three (fun _ h => by cases h) hx1 hx2
  have b1 : Box (w.setCell ⟨b, 0, none⟩ (.bool neg)) b #[.bool neg, x1, x2] t := hb.set 0 _
  have n1 : NoU #[.bool neg, x1, x2] := NoU.three (fun _ h => by cases h) hx1 hx2
  have b2 : Box ((w.setCell ⟨b, 0, none⟩ (.bool neg)).setCell ⟨b, 1, none⟩ va) b #[.bool neg, va, x2] t := b1.set 1 va
  have n2 : NoU #[.bool neg, va, x2] := NoU.three (fun _ h => by cases h) (fun _ h => by rw [e1] at h; cases h) hx2
  exact ⟨va, vb, rfl, ((h1.box hb n0' 0 _).box b1 n1 1 va).box b2 n2 2 vb, ((h2.box hb n0' 0 _).box b1 n1 1 va).box b2 n2 2 vb⟩
end Go.Proofs.Ytebmegodeglobaa

namespace Go.Proofs.Ytebmegodeglobaa
open Go.RowKit

theorem IsF.parts {w : World} {b va vb : Value} {x : F} (h : IsF w (.agg #[b, va, vb]) x) : b = .bool x.neg ∧ Sl w va x.num ∧ Sl w vb x.den := by
  obtain ⟨va', vb', e, h1, h2⟩ := h
  injection e with e
  have e := congrArg Array.toList e
  simp at e
  obtain ⟨e0, rfl, rfl⟩ := e
  exact ⟨e0, h1, h2⟩
/-- Cells off, off + 1, off + 2 of block b hold the fraction x. -/
def HasF (w : World) (b off : Nat) (x : F) : Prop := ∃ va vb, w.cell? ⟨b, off, none⟩ = some (.bool x.neg) ∧ w.cell? ⟨b, off + 1, none⟩ = some va ∧ w.cell? ⟨b, off + 2, none⟩ = some vb ∧ Sl w va x.num ∧ Sl w vb x.den
theorem HasF.after {w w' : World} {b off : Nat} {x : F} (h : HasF w b off x) (hb : Below w.heap.size w w') : HasF w' b off x := by
  obtain ⟨va, vb, h0, h1, h2, h3, h4⟩ := h
  exact ⟨va, vb, keep_cell hb h0, keep_cell hb h1, keep_cell hb h2, h3.after hb, h4.after hb⟩
/-- The slice value v reads as the fractions xs. -/
def SlF (w : World) (v : Value) (xs : List F) : Prop := ∃ b cap, v = .slice (some ⟨b, 0, none⟩) xs.length cap ∧ xs.length ≤ cap ∧ cap ≤ 9223372036854775807 ∧ ∀ (i : Nat) (x : F), xs[i]? = some x → HasF w b (i * 3) x
theorem SlF.after {w w' : World} {v : Value} {xs : List F} (h : SlF w v xs) (hb : Below w.heap.size w w') : SlF w' v xs := by
  obtain ⟨b, cap, h1, h2, h3, h4⟩ := h
  exact ⟨b, cap, h1, h2, h3, fun i x hx => (h4 i x hx).after hb⟩
/-- The fraction whose value v is laid as three cells. -/
theorem HasF.of_cells {w : World} {b off : Nat} {x : F} {va vb : Value} (h : IsF w (.agg #[.bool x.neg, va, vb]) x) (h0 : w.cell? ⟨b, off, none⟩ = some (.bool x.neg)) (h1 : w.cell? ⟨b, off + 1, none⟩ = some va) (h2 : w.cell? ⟨b, off + 2, none⟩ = some vb) : HasF w b off x := by
  obtain ⟨va', vb', e, h3, h4⟩ := h
  obtain ⟨rfl, rfl⟩ : va = va' ∧ vb = vb' := by simpa using e
  exact ⟨va, vb, h0, h1, h2, h3, h4⟩
/-- A literal of two fractions. -/
theorem SlF.two (w : World) {x y : F} {va vb vc vd : Value} {cap : Nat} (h : IsF w (.agg #[.bool x.neg, va, vb]) x) (k : IsF w (.agg #[.bool y.neg, vc, vd]) y) (hc : cap = 2) (t : TypeId) :
    SlF (w.alloc (.cells #[.bool x.neg, va, vb, .bool y.neg, vc, vd] t)) (.slice (some ⟨w.heap.size, 0, none⟩) 2 cap) [x, y] := by
  subst hc
  have hb := (Below.refl w.heap.size w).alloc (Nat.le_refl _) (.cells #[.bool x.neg, va, vb, .bool y.neg, vc, vd] t)
  have bx := Box.new w #[.bool x.neg, va, vb, .bool y.neg, vc, vd] t
  refine ⟨_, _, rfl, Nat.le_refl _, by omega, fun i z hz => ?_⟩
  match i, hz with
  | 0, hz =>
    obtain rfl : x = z := by simpa using hz
    exact HasF.of_cells (va := va) (vb := vb) (h.after hb) (bx.cell 0) (bx.cell 1) (bx.cell 2)
  | 1, hz =>
    obtain rfl : y = z := by simpa using hz
    exact HasF.of_cells (va := vc) (vb := vd) (k.after hb) (bx.cell 3) (bx.cell 4) (bx.cell 5)
/-- A literal of three fractions. -/
theorem SlF.three (w : World) {x y z : F} {va vb vc vd ve vf : Value} {cap : Nat} (h : IsF w (.agg #[.bool x.neg, va, vb]) x) (k : IsF w (.agg #[.bool y.neg, vc, vd]) y) (l : IsF w (.agg #[.bool z.neg, ve, vf]) z) (hc : cap = 3) (t : TypeId) :
    SlF (w.alloc (.cells #[.bool x.neg, va, vb, .bool y.neg, vc, vd, .bool z.neg, ve, vf] t)) (.slice (some ⟨w.heap.size, 0, none⟩) 3 cap) [x, y, z] := by
  subst hc
  have hb := (Below.refl w.heap.size w).alloc (Nat.le_refl _) (.cells #[.bool x.neg, va, vb, .bool y.neg, vc, vd, .bool z.neg, ve, vf] t)
  have bx := Box.new w #[.bool x.neg, va, vb, .bool y.neg, vc, vd, .bool z.neg, ve, vf] t
  refine ⟨_, _, rfl, Nat.le_refl _, by omega, fun i u hu => ?_⟩
  match i, hu with
  | 0, hu =>
    obtain rfl : x = u := by simpa using hu
    exact HasF.of_cells (va := va) (vb := vb) (h.after hb) (bx.cell 0) (bx.cell 1) (bx.cell 2)
  | 1, hu =>
    obtain rfl : y = u := by simpa using hu
    exact HasF.of_cells (va := vc) (vb := vd) (k.after hb) (bx.cell 3) (bx.cell 4) (bx.cell 5)
  | 2, hu =>
    obtain rfl : z = u := by simpa using hu
    exact HasF.of_cells (va := ve) (vb := vf) (l.after hb) (bx.cell 6) (bx.cell 7) (bx.cell 8)
/-- A literal of one fraction. -/
theorem SlF.one (w : World) {x : F} {va vb : Value} {cap : Nat} (h : IsF w (.agg #[.bool x.neg, va, vb]) x) (hc : cap = 1) (t : TypeId) :
    SlF (w.alloc (.cells #[.bool x.neg, va, vb] t)) (.slice (some ⟨w.heap.size, 0, none⟩) 1 cap) [x] := by
  subst hc
  have hb := (Below.refl w.heap.size w).alloc (Nat.le_refl _) (.cells #[.bool x.neg, va, vb] t)
  have bx := Box.new w #[.bool x.neg, va, vb] t
  refine ⟨_, _, rfl, Nat.le_refl _, by omega, fun i u hu => ?_⟩
  match i, hu with
  | 0, hu =>
    obtain rfl : x = u := by simpa using hu
    exact HasF.of_cells (va := va) (vb := vb) (h.after hb) (bx.cell 0) (bx.cell 1) (bx.cell 2)
theorem Tag32.lt {w : World} {b : Nat} (h : Tag32 w b) : b < w.heap.size := by
  obtain ⟨cs, fz, h⟩ := h
  exact (Array.getElem?_eq_some_iff.1 h).1
/-- Limbs are kept where only a row of another type has grown. -/
theorem Sl.grown {w w' : World} {v : Value} {l : List Nat} {row : Option Nat} (h : Sl w v l) (hg : w.grownBy w' row) (hr : ∀ g, row = some g → ¬ Tag32 w g) : Sl w' v l := by
  obtain ⟨h0, a, cap, h1, h2, h3, h5, h6⟩ := h
  refine ⟨h0, a, cap, h1, h2, h3, ⟨h5.1, fun hl b off ha => ?_⟩, fun hl => ?_⟩
  · have ht := h5.2 hl b off ha
    have hne : some b ≠ row := fun e => hr b e.symm ht
    obtain ⟨cs, fz, ht'⟩ := ht
    exact ⟨cs, fz, (hg.block b (Tag32.lt ⟨cs, fz, ht'⟩) hne).trans ht'⟩
  · obtain ⟨b, off, ha, hlt, hc⟩ := h6 hl
    have ht := h5.2 hl b off ha
    have hne : some b ≠ row := fun e => hr b e.symm ht
    exact ⟨b, off, ha, Nat.lt_of_lt_of_le hlt hg.size, fun i hi => hg.cell (hc i hi) hne⟩
theorem ownsRow_tag {w : World} {base n size : Nat} {t : TypeId} {v : Value} {xs : List Value} (h : w.ownsRow base t size v n xs) (ht : t ≠ 95) : ∀ g, v.ownBlock = some g → ¬ Tag32 w g := by
  intro g hg hT
  obtain ⟨cs, fz, hT⟩ := hT
  rcases h.2 with ⟨rfl, _⟩ | ⟨g', cap, cur, rfl, _, hb, _⟩
  · cases hg
  · obtain rfl : g' = g := by simpa [Value.ownBlock] using hg
    rw [hb] at hT
    injection hT with e
    injection e with e1 e2
    exact ht e2
/-- The cells of fractions as an owned row holds them: three for each. -/
def cellsF (es : List (Bool × Value × Value)) : List Value := es.flatMap fun e => [.bool e.1, e.2.1, e.2.2]
theorem cellsF_len : ∀ es : List (Bool × Value × Value), (cellsF es).length = es.length * 3
  | [] => rfl
  | e :: es => by
    have := cellsF_len es
    unfold cellsF at this ⊢
    rw [List.flatMap_cons, List.length_append, this]
    simp only [List.length_cons, List.length_nil]
    omega
theorem cellsF_get : ∀ (es : List (Bool × Value × Value)) (i : Nat) (e : Bool × Value × Value), es[i]? = some e →
    (cellsF es)[i * 3]? = some (.bool e.1) ∧ (cellsF es)[i * 3 + 1]? = some e.2.1 ∧ (cellsF es)[i * 3 + 2]? = some e.2.2
  | [], i, e, h => by simp at h
  | x :: es, 0, e, h => by
    obtain rfl : x = e := by simpa using h
    exact ⟨rfl, rfl, rfl⟩
  | x :: es, i + 1, e, h => by
    have ih := cellsF_get es i e (by simpa using h)
    have e0 : ∀ j, (cellsF (x :: es))[j + 3]? = (cellsF es)[j]? := fun j => by
      unfold cellsF
      rw [List.flatMap_cons]
      rfl
    rw [show (i + 1) * 3 = i * 3 + 3 by omega, show i * 3 + 3 + 1 = i * 3 + 1 + 3 by omega, show i * 3 + 3 + 2 = i * 3 + 2 + 3 by omega, e0, e0, e0]
    exact ih
theorem cellsF_snoc (es : List (Bool × Value × Value)) (e : Bool × Value × Value) : cellsF (es ++ [e]) = cellsF es ++ [.bool e.1, e.2.1, e.2.2] := by
  unfold cellsF; rw [List.flatMap_append]; rfl
/-- What the entries es of a row of fractions stand for. -/
def Ents (w : World) (es : List (Bool × Value × Value)) (xs : List F) : Prop := es.length = xs.length ∧ ∀ (i : Nat) (x : F), xs[i]? = some x → ∃ va vb, es[i]? = some (x.neg, va, vb) ∧ Sl w va x.num ∧ Sl w vb x.den
theorem Ents.after {w w' : World} {es : List (Bool × Value × Value)} {xs : List F} (h : Ents w es xs) (hb : Below w.heap.size w w') : Ents w' es xs :=
  ⟨h.1, fun i x hx => by obtain ⟨va, vb, h1, h2, h3⟩ := h.2 i x hx; exact ⟨va, vb, h1, h2.after hb, h3.after hb⟩⟩
theorem Ents.grown {w w' : World} {es : List (Bool × Value × Value)} {xs : List F} {row : Option Nat} (h : Ents w es xs) (hg : w.grownBy w' row) (hr : ∀ g, row = some g → ¬ Tag32 w g) : Ents w' es xs :=
  ⟨h.1, fun i x hx => by obtain ⟨va, vb, h1, h2, h3⟩ := h.2 i x hx; exact ⟨va, vb, h1, h2.grown hg hr, h3.grown hg hr⟩⟩
theorem Ents.snoc {w : World} {es : List (Bool × Value × Value)} {xs : List F} {x : F} {va vb : Value} (h : Ents w es xs) (h1 : Sl w va x.num) (h2 : Sl w vb x.den) : Ents w (es ++ [(x.neg, va, vb)]) (xs ++ [x]) := by
  refine ⟨by simp [h.1], fun i y hy => ?_⟩
  rcases Nat.lt_or_ge i xs.length with hi | hi
  · rw [List.getElem?_append_left hi] at hy
    obtain ⟨a, b, e1, e2, e3⟩ := h.2 i y hy
    exact ⟨a, b, by rw [List.getElem?_append_left (by rw [h.1]; exact hi)]; exact e1, e2, e3⟩
  · rw [List.getElem?_append_right hi] at hy
    have hi0 : i - xs.length = 0 := by
      rcases Nat.eq_zero_or_pos (i - xs.length) with h0 | h0
      · exact h0
      · rw [List.getElem?_eq_none (by simp; omega)] at hy; cases hy
    rw [hi0] at hy
    obtain rfl : x = y := by simpa using hy
    exact ⟨va, vb, by rw [List.getElem?_append_right (by rw [h.1]; exact hi), h.1, hi0]; rfl, h1, h2⟩
theorem grownBy_of_below {w w' : World} (hb : Below w.heap.size w w') : w.grownBy w' none := ⟨hb.os, hb.tape, hb.output, hb.size, fun k hk _ => hb.block k hk⟩
theorem ownsRow_after {w w' : World} {base n size : Nat} {t : TypeId} {v : Value} {xs : List Value} (h : w.ownsRow base t size v n xs) (hb : Below w.heap.size w w') : w'.ownsRow base t size v n xs :=
  h.kept (grownBy_of_below hb) (by cases hv : v.ownBlock <;> simp)
theorem ownsRow_one (w : World) {base : Nat} (t : TypeId) (hb : base ≤ w.heap.size) (x y z : Value) : (w.alloc (.cells #[x, y, z] t)).ownsRow base t 3 (.slice (some ⟨w.heap.size, 0, none⟩) 1 1) 1 [x, y, z] :=
  ⟨rfl, .inr ⟨w.heap.size, 1, #[x, y, z], rfl, hb, heap_alloc_new w _, Nat.le_refl _, by simp [maxLen], rfl, rfl⟩⟩
/-- An owned row of fractions reads as fractions. -/
theorem SlF.of_own {w : World} {base n : Nat} {t : TypeId} {v : Value} {es : List (Bool × Value × Value)} {xs : List F} (h : w.ownsRow base t 3 v n (cellsF es)) (he : Ents w es xs) (hp : 0 < xs.length) : SlF w v xs := by
  have hn : n = xs.length := by have := h.1; rw [cellsF_len, he.1] at this; omega
  subst hn
  rcases h.2 with ⟨_, h0⟩ | ⟨g, cap, cur, rfl, _, hg, h3, h4, _, _⟩
  · omega
  · refine ⟨g, cap, rfl, h3, by simpa [maxLen] using h4, fun i x hx => ?_⟩
    obtain ⟨va, vb, e1, e2, e3⟩ := he.2 i x hx
    obtain ⟨g0, g1, g2⟩ := cellsF_get es i _ e1
    have hc := h.cells (g := g) rfl
    have hadd : ∀ j, (⟨g, 0, none⟩ : Addr).add j = ⟨g, j, none⟩ := fun j => by unfold Addr.add; split <;> simp_all
    have c0 := hc _ _ g0
    have c1 := hc _ _ g1
    have c2 := hc _ _ g2
    rw [hadd] at c0 c1 c2
    exact ⟨va, vb, c0, c1, c2, e2, e3⟩
theorem SlF.lt {w : World} {b cap n : Nat} {xs : List F} (h : SlF w (.slice (some ⟨b, 0, none⟩) n cap) xs) (hp : 0 < xs.length) : b < w.heap.size := by
  obtain ⟨b', cap', e, _, _, h4⟩ := h
  obtain ⟨rfl, _, _⟩ : b = b' ∧ n = xs.length ∧ cap = cap' := by simpa using e
  obtain ⟨x, hx⟩ : ∃ x, xs[0]? = some x := ⟨xs[0], List.getElem?_eq_getElem hp⟩
  obtain ⟨va, vb, h0, _⟩ := h4 0 x hx
  exact World.block_lt_of_cell? w _ h0
end Go.Proofs.Ytebmegodeglobaa

namespace Go.Proofs.Ytebmegodeglobaa
open Go.RowKit

theorem div_gcd {n d : Nat} : Nat.gcd n d * (n / Nat.gcd n d) = n := Nat.mul_div_cancel' (Nat.gcd_dvd_left n d)

set_option maxRecDepth 100000 in
set_option maxHeartbeats 1000000 in
theorem reduced1_c (w : World) (va vb : Value) (n d g0 : Nat) (neg : Bool) (h : Sl w va (limbs n)) (k : Sl w vb (limbs d)) (hd : 0 < d) (hc : w.cell? ⟨g0, 0, none⟩ = some (.bool neg))
    (ha : (limbs n).length ≤ 1000000) (hb : (limbs d).length ≤ 1000000) :
    Calls Try.prog 55 #[va, vb, .pointer (some ⟨g0, 0, none⟩)] w (RetF w (made neg n d)) := by
  have hg0 := World.block_lt_of_cell? _ _ hc
  simp only at hg0
  have W1 := (Below.refl w.heap.size w).alloc (Nat.le_refl _) (.cells #[.bool false, .slice none 0 0, .slice none 0 0] 26)
  have g1 := h.alloc (.cells #[.bool false, .slice none 0 0, .slice none 0 0] 26)
  have g2 := k.alloc (.cells #[.bool false, .slice none 0 0, .slice none 0 0] 26)
  have hgp : 0 < Nat.gcd n d := Nat.gcd_pos_of_pos_right _ hd
  have H1 := Lib.hid g1
  have H2 := Lib.hid g2
  have HM : Hid (made neg n d = if 32 < (limbs (n / Nat.gcd n d)).length ∨ 32 < (limbs (d / Nat.gcd n d)).length then (F0, 3)
      else (fr (neg && decide (0 < n / Nat.gcd n d)) (n / Nat.gcd n d) (d / Nat.gcd n d), 0)) := by unfold made; congr
  clear h k g1 g2
  go_enter Try.func55, Try.ntmps55
  go_wp2_with fail
  refine (common_c _ _ _ _ _ H1.out H2.out ha hb).mono ?_
  rintro e w1 ⟨vg, rfl, hg, hb1⟩
  have K1 := Lib.hid (H1.out.after hb1)
  have K2 := Lib.hid (H2.out.after hb1)
  have HG := Lib.hid hg
  have HB1 := Lib.hid hb1
  clear H1 H2 hg hb1
  generalize hgg : Nat.gcd n d = g at *
  clear hgg
  go_wp2_with fail
  refine (divide_c _ _ _ _ _ K1.out HG.out hgp ha).mono ?_
  rintro e w2 ⟨v1, v2, rfl, hv1, hv2, hb2⟩
  have K3 := Lib.hid (K2.out.after hb2)
  have HG2 := Lib.hid (HG.out.after hb2)
  have HB2 := Lib.hid hb2
  obtain ⟨p, cp, rfl, hp1, hp2⟩ := hv1.shape
  have HV1 := Lib.hid hv1
  clear K1 K2 HG hv1 hv2 hb2
  go_wp2_with fail
  refine (divide_c _ _ _ _ _ K3.out HG2.out hgp hb).mono ?_
  rintro e w3 ⟨v3, v4, rfl, hv3, hv4, hb3⟩
  obtain ⟨q, cq, rfl, hq1, hq2⟩ := hv3.shape
  have HV2 := Lib.hid (HV1.out.after hb3)
  have HV3 := Lib.hid hv3
  have HB3 := Lib.hid hb3
  clear K3 HG2 HV1 hv3 hv4 hb3
  generalize hx : n / g = x at *
  generalize hy : d / g = y at *
  clear hx hy
  have hw3 : Below (w.heap.size + 1) (w.alloc (.cells #[.bool false, .slice none 0 0, .slice none 0 0] 26)) w3 := by
    have s1 := HB1.out.size
    have s2 := HB2.out.size
    simp only [World.size_alloc] at s1
    have := (HB1.out.mono (by simp)).trans ((HB2.out.mono s1).trans (HB3.out.mono (Nat.le_trans s1 s2)))
    exact this
  have hbx := (Box.new w #[.bool false, .slice none 0 0, .slice none 0 0] 26).after (w' := w3) (by simpa using hw3)
  have r0 := hbx.cell 0
  have r1 := hbx.cell 1
  have r2 := hbx.cell 2
  have f0 := hbx.frozen 0
  have f1 := hbx.frozen 1
  have f2 := hbx.frozen 2
  have hcg : w3.cell? ⟨g0, 0, none⟩ = some (.bool neg) := (hw3.cell (p := ⟨g0, 0, none⟩) (by show g0 < _; omega)).trans ((World.cell?_alloc_lt w _ _ hg0).trans hc)
  have HW3 := Lib.hid hw3
  have HBX := Lib.hid hbx
  have hrl : w.heap.size < w3.heap.size := hbx.lt
  simp only [List.getElem?_toArray, List.getElem?_cons_zero, List.getElem?_cons_succ] at r0 r1 r2
  have hbw : Below w.heap.size w w3 := W1.trans (HW3.out.mono (by omega))
  clear hw3 hbx HB1 HB2 HB3 hc
  by_cases hbig : 32 < (limbs x).length ∨ 32 < (limbs y).length
  · have HG := Lib.hid hbig
    have hmx : 32 < max (limbs x).length (limbs y).length := by omega
    clear hbig
    go_wp2_with fail
    refine bodyPost_ret (v := .tuple #[.agg #[.bool false, .slice none 0 0, .slice none 0 0], .int .i64 3]) (by simp [results, Try.results55, go_sem, r0, r1, r2]) rfl ?_
    rw [HM.out, if_pos HG.out]
    exact ⟨_, rfl, IsF.zero _, ((hbw.setCell (Nat.le_refl _) _).setCell (Nat.le_refl _) _).setCell (Nat.le_refl _) _⟩
  · have HG := Lib.hid hbig
    have hm1 : (limbs x).length ≤ 32 := by omega
    have hm2 : (limbs y).length ≤ 32 := by omega
    clear hbig
    rcases Nat.lt_or_ge 0 x with hx0 | hx0
    · have hl := limbs_len_pos hx0
      cases neg with
      | true =>
        go_wp2_with fail
        refine bodyPost_ret (v := .tuple #[.agg #[.bool true, .slice p (limbs x).length cp, .slice q (limbs y).length cq], .int .i64 0]) (by simp [results, Try.results55, go_sem, r0, r1, r2]) rfl ?_
        rw [HM.out, if_neg HG.out, show (true && decide (0 < x)) = true from by simp [hx0]]
        exact ⟨_, rfl, IsF.result HBX.out (fun _ h => by cases h) (fun _ h => by cases h) HV2.out HV3.out, ((hbw.setCell (Nat.le_refl _) _).setCell (Nat.le_refl _) _).setCell (Nat.le_refl _) _⟩
      | false =>
        go_wp2_with fail
        refine bodyPost_ret (v := .tuple #[.agg #[.bool false, .slice p (limbs x).length cp, .slice q (limbs y).length cq], .int .i64 0]) (by simp [results, Try.results55, go_sem, r0, r1, r2]) rfl ?_
        rw [HM.out, if_neg HG.out, Bool.false_and]
        exact ⟨_, rfl, IsF.result HBX.out (fun _ h => by cases h) (fun _ h => by cases h) HV2.out HV3.out, ((hbw.setCell (Nat.le_refl _) _).setCell (Nat.le_refl _) _).setCell (Nat.le_refl _) _⟩
    · obtain rfl : x = 0 := by omega
      have e1 : decide (0 < 0) = false := rfl
      have HV2' : Hid (Sl w3 (.slice p 0 cp) (limbs 0)) := by have := HV2.out; rwa [show (limbs 0).length = 0 from by rw [limbs_zero]; rfl] at this
      have HE1 := Lib.hid e1
      clear e1 HV2
      simp only [limbs_zero, List.length_nil]
      cases neg with
      | true =>
        go_wp2_with fail
        refine bodyPost_ret (v := .tuple #[.agg #[.bool false, .slice p 0 cp, .slice q (limbs y).length cq], .int .i64 0]) (by simp [results, Try.results55, go_sem, r0, r1, r2]) rfl ?_
        rw [HM.out, if_neg HG.out, show (true && decide (0 < 0)) = false from rfl]
        exact ⟨_, rfl, IsF.result HBX.out (fun _ h => by cases h) (fun _ h => by cases h) HV2'.out HV3.out, ((hbw.setCell (Nat.le_refl _) _).setCell (Nat.le_refl _) _).setCell (Nat.le_refl _) _⟩
      | false =>
        go_wp2_with fail
        refine bodyPost_ret (v := .tuple #[.agg #[.bool false, .slice p 0 cp, .slice q (limbs y).length cq], .int .i64 0]) (by simp [results, Try.results55, go_sem, r0, r1, r2]) rfl ?_
        rw [HM.out, if_neg HG.out, Bool.false_and]
        exact ⟨_, rfl, IsF.result HBX.out (fun _ h => by cases h) (fun _ h => by cases h) HV2'.out HV3.out, ((hbw.setCell (Nat.le_refl _) _).setCell (Nat.le_refl _) _).setCell (Nat.le_refl _) _⟩
end Go.Proofs.Ytebmegodeglobaa

namespace Go.Proofs.Ytebmegodeglobaa
open Go.RowKit

/-- The closure that reduced returns. -/
def redFn (b : Nat) : Value := .func (.func 55) #[] #[.pointer (some ⟨b, 0, none⟩)]
set_option maxHeartbeats 400000 in
theorem reduced_c (w : World) (neg : Bool) :
    Calls Try.prog 37 #[.bool neg] w fun e w' => e = .returned (.func (.func 55) #[] #[.pointer (some ⟨w.heap.size, 0, none⟩)]) ∧ w.alloc (.cells #[.bool neg] 4) = w' := by
  go_enter Try.func37, Try.ntmps37
  go_wp2
  go_ret
  exact ⟨rfl, rfl⟩

theorem from_n (z : Int) (n : Nat) (hz : z = n) (hn : n ≤ 9223372036854775808) (w : World) :
    Calls Try.prog 36 #[.int .u64 z] w (RetNat w n) := from_i z n hz (by omega) w

set_option maxHeartbeats 400000 in
theorem size_c (w : World) (n : Int) (h0 : -9223372036854775808 ≤ n) (h1 : n ≤ 9223372036854775807) :
    Calls Try.prog 35 #[.int .i64 n] w (RetNat w n.natAbs) := by
  rcases Int.lt_or_le n 0 with hn | hn
  · go_enter Try.func35, Try.ntmps35
    go_wp2_with fail
    refine (from_n _ n.natAbs ?_ (by omega) _).mono ?_
    · simp only [IntKind.wrap_u64]; omega
    rintro e w1 ⟨v, rfl, hv, hb⟩
    have HV := Lib.hid hv
    have HB := Lib.hid hb
    clear hv hb
    go_wp2_with fail
    go_ret
    exact ⟨_, rfl, HV.out, HB.out⟩
  · go_enter Try.func35, Try.ntmps35
    go_wp2_with fail
    refine (from_n _ n.natAbs ?_ (by omega) _).mono ?_
    · omega
    rintro e w1 ⟨v, rfl, hv, hb⟩
    have HV := Lib.hid hv
    have HB := Lib.hid hb
    clear hv hb
    go_wp2_with fail
    go_ret
    exact ⟨_, rfl, HV.out, HB.out⟩

/-- What Of returns. -/
noncomputable def ofF (n d : Int) : F × Int := if d = 0 then (F0, 2) else made (!(decide (n < 0) == decide (d < 0))) n.natAbs d.natAbs

set_option maxRecDepth 100000 in
set_option maxHeartbeats 1000000 in
theorem Of_c (w : World) (n d : Int) (h0 : -9223372036854775808 ≤ n) (h1 : n ≤ 9223372036854775807) (k0 : -9223372036854775808 ≤ d) (k1 : d ≤ 9223372036854775807) :
    Calls Try.prog 20 #[.int .i64 n, .int .i64 d] w (RetF w (ofF n d)) := by
  by_cases hd : d = 0
  · subst hd
    go_enter Try.func20, Try.ntmps20
    go_wp2_with fail
    refine bodyPost_ret (v := .tuple #[.agg #[.bool false, .slice none 0 0, .slice none 0 0], .int .i64 2]) (by simp [results, Try.results20, go_sem]) rfl ?_
    exact ⟨_, rfl, IsF.zero _, (Below.refl _ w).alloc (Nat.le_refl _) _⟩
  · have hne : (d == 0) = false := beq_eq_false_iff_ne.2 hd
    have hof : Hid (ofF n d = made (!(decide (n < 0) == decide (d < 0))) n.natAbs d.natAbs) := by show ofF n d = _; unfold ofF; rw [if_neg hd]
    have hdp : 0 < d.natAbs := by omega
    clear hd
    go_enter Try.func20, Try.ntmps20
    go_wp2_with fail
    refine (reduced_c _ _).mono ?_
    rintro e w' ⟨rfl, rfl⟩
    go_wp2_with fail
    refine (size_c _ n h0 h1).mono ?_
    rintro e w1 ⟨v1, rfl, hv1, hb1⟩
    have HV1 := Lib.hid hv1
    have HB1 := Lib.hid hb1
    clear hv1 hb1
    go_wp2_with fail
    refine (size_c _ d k0 k1).mono ?_
    rintro e w2 ⟨v2, rfl, hv2, hb2⟩
    have HV1' := Lib.hid (HV1.out.after hb2)
    have HV2 := Lib.hid hv2
    have hb12 := HB1.out.trans (hb2.mono HB1.out.size)
    have bx := (Box.new w #[.bool false, .slice none 0 0, .slice none 0 0] 26)
    have bx2 := (bx.alloc (.cells #[.bool (!(decide (n < 0) == decide (d < 0)))] 4)).after (w' := w2) (by simpa using hb12)
    have bn := (Box.new (w.alloc (.cells #[.bool false, .slice none 0 0, .slice none 0 0] 26)) #[.bool (!(decide (n < 0) == decide (d < 0)))] 4).after (w' := w2) (by simpa using hb12)
    have hcn := bn.cell 0
    have bw : Below w.heap.size w w2 := (((Below.refl _ w).alloc (Nat.le_refl _) _).alloc (by simp) _).trans (hb12.mono (by simp; omega))
    have BX2 := Lib.hid bx2
    have BW := Lib.hid bw
    have hl1 : Hid (∀ m : Nat, m ≤ 9223372036854775808 → (limbs m).length ≤ 1000000) := fun m hm => by
      have := limbs_len_lt (n := m) (k := 2) (by omega)
      omega
    simp only [World.size_alloc] at hcn
    have HCN := Lib.hid hcn
    clear HV1 HB1 hv2 hb2 hb12 bx bx2 bn bw hcn
    go_wp2_with fail
    refine (reduced1_c w2 v1 v2 n.natAbs d.natAbs (w.heap.size + 1) (!(decide (n < 0) == decide (d < 0))) HV1'.out HV2.out hdp HCN.out (hl1.out _ (by omega)) (hl1.out _ (by omega))).mono ?_
    rw [← hof.out]
    rintro e w3 ⟨v3, rfl, hv3, hb3⟩
    obtain ⟨va, vb, rfl, hva, hvb⟩ := hv3
    have bx3 := BX2.out.after hb3
    obtain ⟨p, cp, rfl, hp1, hp2⟩ := hva.shape
    obtain ⟨q, cq, rfl, hq1, hq2⟩ := hvb.shape
    have bw := BW.out.trans (hb3.mono BW.out.size)
    have r0 := bx3.cell 0
    have r1 := bx3.cell 1
    have r2 := bx3.cell 2
    have f0 := bx3.frozen 0
    have f1 := bx3.frozen 1
    have f2 := bx3.frozen 2
    simp only [List.getElem?_toArray, List.getElem?_cons_zero, List.getElem?_cons_succ] at r0 r1 r2
    generalize hof2 : ofF n d = o at *
    obtain ⟨⟨neg, A, B⟩, er⟩ := o
    have HVA := Lib.hid hva
    have HVB := Lib.hid hvb
    have BX3 := Lib.hid bx3
    have BW3 := Lib.hid bw
    clear hva hvb bx3 bw hb3 BX2 BW HCN hof hof2
    simp only at HVA HVB
    go_wp2_with fail
    refine bodyPost_ret (v := .tuple #[.agg #[.bool neg, .slice p A.length cp, .slice q B.length cq], .int .i64 er]) (by simp [results, Try.results20, go_sem, r0, r1, r2]) rfl ?_
    exact ⟨_, rfl, IsF.result BX3.out (fun _ h => by cases h) (fun _ h => by cases h) HVA.out HVB.out, ((BW3.out.setCell (Nat.le_refl _) _).setCell (Nat.le_refl _) _).setCell (Nat.le_refl _) _⟩
end Go.Proofs.Ytebmegodeglobaa
