/- Walks of package tails: Exactly.
   A range over a function that counts down, whose rounds that go on leave memory as it was: one law for the caller, with facts on memory handed to the body.
   Walks of package tails: the tails from n down to 0, yielded one by one.
   Walks of package tails: down, at.
   Walks of package tails: Tail. -/
import Derived.Test.YtebmegodeglobaaK11
import Derived.RangeFuncNested
import Derived.RangeFuncBound
import Derived.RangeFuncCalls
import Derived.RangeFuncLeaves
import Derived.Shelf.Abstract
import Derived.Test.YtebmegodeglobaaK10
import Derived.TacticsIn
import Derived.BigFrameIn
import Derived.OwnWalkIn
import Derived.TacticsInMore
import Derived.LoopNIn
import Derived.LoopIn
set_option linter.unusedVariables false
namespace Go.Proofs.Ytebmegodeglobaa
open Go.RowKit

theorem rate_fr {x : F} (h : rateE x = 0) : ∃ a b, x = fr false a b ∧ a ≤ b ∧ 0 < b ∧ b ≤ 1000 ∧ val x.num = a ∧ val x.den = b := by
  have hf : fracE x = 0 := by
    rcases fracE_cases x with h0 | h0
    · exact h0
    · have hne : fracE x ≠ 0 := by omega
      rw [rateE_bad hne] at h
      exact h
  obtain ⟨hv, hn, hle⟩ := fracE_zero hf
  rw [rateE_good hf] at h
  refine ⟨val x.num, val x.den, ?_, hle, hv.2.2.pos, ?_, rfl, rfl⟩
  · have := hv.eq; rwa [hn] at this
  · rcases Nat.lt_or_ge 1000 (val x.den) with h1 | h1
    · rw [if_pos h1] at h; omega
    · exact h1
theorem checkE_zero {x : F} {g : Bool} (h : checkE x g = 0) : rateE x = 0 ∧ g = true := by
  unfold checkE at h
  by_cases hr : rateE x = 0
  · rw [if_pos hr] at h
    cases g with
    | true => exact ⟨hr, rfl⟩
    | false => simp at h
  · rw [if_neg hr] at h; exact absurd h hr
theorem checkE_cases (x : F) (g : Bool) : checkE x g = 0 ∨ checkE x g = 1 ∨ checkE x g = 2 := by
  unfold checkE
  by_cases hr : rateE x = 0
  · rw [if_pos hr]; cases g
    · exact .inr (.inr rfl)
    · exact .inl rfl
  · rw [if_neg hr]; exact rateE_cases x

/-- What Exactly returns. -/
noncomputable def exactlyF (n k : Int) (p : F) : F × Int :=
  if checkE p (trialsB n k n) = 0 then made false (ex (val p.num) (val p.den - val p.num) n.toNat k.toNat) (val p.den ^ n.toNat) else (F0, checkE p (trialsB n k n))

theorem keep_far3 {W : World} {R X : Nat} {u0 u1 u2 : Value} (h : R ≠ X) (j : Nat) : (((W.setCell ⟨R, 0, none⟩ u0).setCell ⟨R, 1, none⟩ u1).setCell ⟨R, 2, none⟩ u2).cell? ⟨X, j, none⟩ = W.cell? ⟨X, j, none⟩ := by
  rw [World.cell?_setCell_other _ _ _ _ (fun e => h (by injection e)), World.cell?_setCell_other _ _ _ _ (fun e => h (by injection e)), World.cell?_setCell_other _ _ _ _ (fun e => h (by injection e))]

theorem keep4s {W : World} {R X : Nat} {u0 u1 u2 a b c d : Value} (h : R ≠ X) (hs : W.cell? ⟨X, 1, none⟩ = some a ∧ W.cell? ⟨X, 2, none⟩ = some b ∧ W.cell? ⟨X, 3, none⟩ = some c ∧ W.cell? ⟨X, 4, none⟩ = some d) :
    (((W.setCell ⟨R, 0, none⟩ u0).setCell ⟨R, 1, none⟩ u1).setCell ⟨R, 2, none⟩ u2).cell? ⟨X, 1, none⟩ = some a ∧ (((W.setCell ⟨R, 0, none⟩ u0).setCell ⟨R, 1, none⟩ u1).setCell ⟨R, 2, none⟩ u2).cell? ⟨X, 2, none⟩ = some b ∧
    (((W.setCell ⟨R, 0, none⟩ u0).setCell ⟨R, 1, none⟩ u1).setCell ⟨R, 2, none⟩ u2).cell? ⟨X, 3, none⟩ = some c ∧ (((W.setCell ⟨R, 0, none⟩ u0).setCell ⟨R, 1, none⟩ u1).setCell ⟨R, 2, none⟩ u2).cell? ⟨X, 4, none⟩ = some d :=
  ⟨(keep_far3 h 1).trans hs.1, (keep_far3 h 2).trans hs.2.1, (keep_far3 h 3).trans hs.2.2.1, (keep_far3 h 4).trans hs.2.2.2⟩

set_option maxRecDepth 100000 in
set_option maxHeartbeats 4000000 in
theorem tExactly_c (w : World) (n k : Int) (v : Value) (x : F) (h : IsF w v x) :
    Calls Try.prog 19 #[.int .i64 n, .int .i64 k, v] w (RetF w (exactlyF n k x)) := by
  have HX := h
  obtain ⟨va, vb, rfl, h1, h2⟩ := h
  obtain ⟨p, cp, rfl, _, _⟩ := h1.shape
  obtain ⟨q, cq, rfl, _, _⟩ := h2.shape
  obtain ⟨W0, hW, bx, br, hsz, hb0⟩ := start2 w #[.bool x.neg, .slice p x.num.length cp, .slice q x.den.length cq] #[.bool false, .slice none 0 0, .slice none 0 0] 26
  obtain ⟨c0, c1, c2⟩ := bx.cells3
  have H1 := Lib.hid (HX.after hb0)
  have HB0 := Lib.hid hb0
  have BX := Lib.hid bx
  have BR := Lib.hid br
  have mkS : Hid (∀ w', Below W0.heap.size W0 w' → w'.cell? ⟨w.heap.size, 0, none⟩ = some (.bool x.neg) ∧ w'.cell? ⟨w.heap.size, 1, none⟩ = some (.slice p x.num.length cp) ∧ w'.cell? ⟨w.heap.size, 2, none⟩ = some (.slice q x.den.length cq)) :=
    fun w' hb => ⟨keep_cell hb c0, keep_cell hb c1, keep_cell hb c2⟩
  clear HX bx br hb0 h1 h2 c0 c1 c2
  obtain ⟨r, hr⟩ : ∃ r, checkE x (trialsB n k n) = r := ⟨_, rfl⟩
  have hrc := checkE_cases x (trialsB n k n)
  rw [hr] at hrc
  have HRR := Lib.hid hr
  by_cases h0 : r = 0
  · subst h0
    obtain ⟨hrate, htr⟩ := checkE_zero hr
    obtain ⟨a, b, rfl, hab, hb0, hb1, ha', hb'⟩ := rate_fr hrate
    obtain ⟨t1, t2, t3, t4⟩ := trialsB_iff.1 htr
    obtain ⟨N, rfl⟩ : ∃ N : Nat, n = N := ⟨n.toNat, by omega⟩
    obtain ⟨K, rfl⟩ : ∃ K : Nat, k = K := ⟨k.toNat, by omega⟩
    have hsp : Hid (exactlyF (N : Int) (K : Int) (fr false a b) = made false (ex a (b - a) N K) (b ^ N)) := by
      show _ = _
      unfold exactlyF
      rw [if_pos hr, ha', hb']
      simp
    have hN : N ≤ 64 := by omega
    have hK : K ≤ N := by omega
    have HN := Lib.hid hN
    have HK := Lib.hid hK
    have HAB := Lib.hid hab
    have HB1 := Lib.hid hb1
    have HB2 := Lib.hid hb0
    clear hr hrc hrate htr ha' hb' t1 t2 t3 t4 hab hb1 hb0
    go_enter Try.func19, Try.ntmps19
    go_upto_region 1 with fail
    rw [← hW]
    clear hW
    go_region_held3 (fun w' => w'.cell? ⟨w.heap.size, 0, none⟩ = some (.bool (fr false a b).neg) ∧ w'.cell? ⟨w.heap.size, 1, none⟩ = some (.slice p (fr false a b).num.length cp) ∧ w'.cell? ⟨w.heap.size, 2, none⟩ = some (.slice q (fr false a b).den.length cq))
      (first | (refine mkS.out _ ?_; repeat (first | with_reducible exact hk2 | with_reducible exact Below.refl _ _ | with_reducible refine below_dr ?_)))
      (first
       | (go_at_call 32; refine (ttrials_c _ _ _ _).mono ?_; rintro e w' ⟨rfl, rfl⟩)
       | (go_at_call 31; refine (checked_c _ _ (fr false a b) _ ?_).mono ?_; exact H1.out.after (below_dr (Below.refl _ W0)); rw [HRR.out]; rintro e w2 ⟨rfl, hb2⟩; have hk2 := below_of_drew hb2))
    have HK2 := Lib.hid hk2
    have BX2 := Lib.hid (BX.out.after hk2)
    have BR2 := Lib.hid (BR.out.after hk2)
    have H2 := Lib.hid (H1.out.after hk2)
    obtain ⟨c0, c1, c2⟩ := (BX.out.after hk2).cells3
    clear hk2 hb2 BX BR H1 mkS
    go_wp2_with fail
    refine (spreadOf_t _ _ N a b H2.out HAB.out HB2.out HB1.out HN.out).mono ?_
    rintro e w3 ⟨u, rfl, hu, hb3⟩
    obtain ⟨vi, vj, g2, g9, g10, rfl, hi1, hi2, hpart⟩ := hu
    have hab' : a + (b - a) = b := by have := HAB.out; omega
    rw [hab'] at hi1
    have hac : Hid (a + (b - a) ≤ 1000) := by show _ ≤ _; rw [hab']; exact HB1.out
    obtain ⟨p1, cp1, rfl, _, _⟩ := hi1.shape
    obtain ⟨q1, cq1, rfl, _, _⟩ := hi2.shape
    obtain ⟨W4, hW4⟩ : ∃ W4, W4 = w3.alloc (.cells #[.int .i64 (N : Int), .bool false, .slice p1 (limbs (b ^ N)).length cp1, .slice q1 (limbs 1).length cq1, .func (.func 51) #[] #[.pointer (some ⟨g2, 0, none⟩), .pointer (some ⟨g9, 0, none⟩), .pointer (some ⟨g10, 0, none⟩)]] 79) := ⟨_, rfl⟩
    have hb4 : Below w3.heap.size w3 W4 := hW4 ▸ (Below.refl _ w3).alloc (Nat.le_refl _) _
    have bx4 : Box W4 w3.heap.size #[.int .i64 (N : Int), .bool false, .slice p1 (limbs (b ^ N)).length cp1, .slice q1 (limbs 1).length cq1, .func (.func 51) #[] #[.pointer (some ⟨g2, 0, none⟩), .pointer (some ⟨g9, 0, none⟩), .pointer (some ⟨g10, 0, none⟩)]] 79 := hW4 ▸ Box.new w3 _ _
    obtain ⟨s0, s1, s2, s3, s4⟩ := bx4.cells5
    have hb34 := hb3.trans (hb4.mono hb3.size)
    have HK4 := Lib.hid (HK2.out.trans (hb34.mono HK2.out.size))
    have BR4 := Lib.hid (BR2.out.after hb34)
    have HP4 := Lib.hid (hpart.after hb4)
    have HI4 := Lib.hid (show IsF W4 (.agg #[.bool false, .slice p1 (limbs (b ^ N)).length cp1, .slice q1 (limbs 1).length cq1]) (Wh (b ^ N)) from ⟨_, _, rfl, hi1.after hb4, hi2.after hb4⟩)
    have hne4 : w.heap.size + 1 ≠ w3.heap.size := by have := (BR2.out.after hb3).lt; omega
    have mkS : Hid (∀ w', Below W4.heap.size W4 w' → w'.cell? ⟨w3.heap.size, 1, none⟩ = some (.bool false) ∧ w'.cell? ⟨w3.heap.size, 2, none⟩ = some (.slice p1 (limbs (b ^ N)).length cp1) ∧ w'.cell? ⟨w3.heap.size, 3, none⟩ = some (.slice q1 (limbs 1).length cq1) ∧ w'.cell? ⟨w3.heap.size, 4, none⟩ = some (.func (.func 51) #[] #[.pointer (some ⟨g2, 0, none⟩), .pointer (some ⟨g9, 0, none⟩), .pointer (some ⟨g10, 0, none⟩)])) := fun w' hb => ⟨keep_cell hb s1, keep_cell hb s2, keep_cell hb s3, keep_cell hb s4⟩
    have le1 : Hid ((limbs (ex a (b - a) N K)).length ≤ 32) := Nat.le_trans (limbs_len_mono (ex_all_le a (b - a) N K)) (Nat.le_trans (pow_limbs hac.out HN.out) (by omega))
    have le2 : Hid ((limbs (b ^ N)).length ≤ 32) := Nat.le_trans (pow_limbs HB1.out HN.out) (by omega)
    have hdiv : Hid (opF divN (Wh (ex a (b - a) N K)) (Wh (b ^ N)) = exactlyF (N : Int) (K : Int) (fr false a b)) := by
      show _ = _
      rw [hsp.out]
      exact div_made le1.out le2.out (Nat.pow_pos HB2.out)
    obtain ⟨o, ho⟩ : ∃ o, exactlyF (N : Int) (K : Int) (fr false a b) = o := ⟨_, rfl⟩
    rw [ho] at hdiv
    have HO := Lib.hid ho
    clear hi1 hi2 hpart hb3 hb4 hb34 bx4 s0 hsp ho hab' HK2 BX2 BR2 H2 c0 c1 c2
    go_upto_region 1 with fail
    rw [← hW4]
    clear hW4
    go_region_held3 (fun w' => w'.cell? ⟨w3.heap.size, 1, none⟩ = some (.bool false) ∧ w'.cell? ⟨w3.heap.size, 2, none⟩ = some (.slice p1 (limbs (b ^ N)).length cp1) ∧ w'.cell? ⟨w3.heap.size, 3, none⟩ = some (.slice q1 (limbs 1).length cq1) ∧ w'.cell? ⟨w3.heap.size, 4, none⟩ = some (.func (.func 51) #[] #[.pointer (some ⟨g2, 0, none⟩), .pointer (some ⟨g9, 0, none⟩), .pointer (some ⟨g10, 0, none⟩)]))
      (first | (refine mkS.out _ ?_; (repeat (first | with_reducible exact hk6 | with_reducible exact hk5 | with_reducible exact Below.refl _ _ | with_reducible refine below_dr ?_)); done) | (with_reducible refine keep4s hne4 ?_; with_reducible exact mkS.out _ hk6))
      (first
       | (go_at_call 51; refine (part_t _ N a (b - a) K g2 g9 g10 ?_ HK.out HN.out hac.out).mono ?_; exact HP4.out.after (below_dr (Below.refl _ W4)); rintro e w5 ⟨v5, rfl, hv5, hb5⟩; have hk5 := below_of_drew hb5; have HV5 := Lib.hid hv5; obtain ⟨vx, vy, rfl, h3, h4⟩ := hv5; obtain ⟨p5, cp5, rfl, _, _⟩ := h3.shape; obtain ⟨q5, cq5, rfl, _, _⟩ := h4.shape; clear h3 h4 hb5)
       | (go_at_call 34; refine (Div_c _ _ _ (Wh (ex a (b - a) N K)) (Wh (b ^ N)) HV5.out (HI4.out.after hk5)).mono ?_; rw [hdiv.out]; rintro e w6 ⟨v6, rfl, hv6, hb6⟩; have hk6 := hk5.trans (hb6.mono hk5.size); obtain ⟨vx, vy, rfl, h5, h6⟩ := hv6; obtain ⟨p6, cp6, rfl, _, _⟩ := h5.shape; obtain ⟨q6, cq6, rfl, _, _⟩ := h6.shape; have HS5 := Lib.hid h5; have HS6 := Lib.hid h6; have BR6 := BR4.out.after hk6; obtain ⟨z0, z1, z2⟩ := BR6.cells3; have f0 := BR6.frozen 0; have f1 := BR6.frozen 1; have f2 := BR6.frozen 2; clear h5 h6 hb6))
    have HK6 := Lib.hid (HK4.out.trans (hk6.mono HK4.out.size))
    have HR6 := Lib.hid BR6
    clear hk6 hk5 BR6 mkS s1 s2 s3 s4 hne4
    go_wp2_with fail
    refine bodyPost_ret (v := .tuple #[.agg #[.bool o.1.neg, .slice p6 o.1.num.length cp6, .slice q6 o.1.den.length cq6], .int .i64 o.2]) (by simp [results, Try.results19, go_sem, z0, z1, z2]) rfl ?_
    rw [HO.out]
    exact ⟨_, rfl, IsF.result HR6.out (fun _ h => by cases h) (fun _ h => by cases h) HS5.out HS6.out, (((HB0.out.trans (HK6.out.mono HB0.out.size)).setCell (p := ⟨w.heap.size + 1, 0, none⟩) (by simp) _).setCell (p := ⟨w.heap.size + 1, 1, none⟩) (by simp) _).setCell (p := ⟨w.heap.size + 1, 2, none⟩) (by simp) _⟩
  · have hsp : Hid (exactlyF n k x = (F0, r)) := by
      show _ = _
      unfold exactlyF
      rw [hr, if_neg h0]
    have hrp : 0 < r := by omega
    have hrq : r ≤ 2 := by omega
    clear hr hrc h0
    go_enter Try.func19, Try.ntmps19
    go_upto_region 1 with fail
    rw [← hW]
    clear hW
    go_region_held3 (fun w' => w'.cell? ⟨w.heap.size, 0, none⟩ = some (.bool x.neg) ∧ w'.cell? ⟨w.heap.size, 1, none⟩ = some (.slice p x.num.length cp) ∧ w'.cell? ⟨w.heap.size, 2, none⟩ = some (.slice q x.den.length cq))
      (first | (refine mkS.out _ ?_; repeat (first | with_reducible exact hk2 | with_reducible exact Below.refl _ _ | with_reducible refine below_dr ?_)))
      (first
       | (go_at_call 32; refine (ttrials_c _ _ _ _).mono ?_; rintro e w' ⟨rfl, rfl⟩)
       | (go_at_call 31; refine (checked_c _ _ x _ ?_).mono ?_; exact H1.out.after (below_dr (Below.refl _ W0)); rw [HRR.out]; rintro e w2 ⟨rfl, hb2⟩; have hk2 := below_of_drew hb2))
    have HK2 := Lib.hid hk2
    have BR2 := BR.out.after hk2
    obtain ⟨z0, z1, z2⟩ := BR2.cells3
    have f0 := BR2.frozen 0
    have f1 := BR2.frozen 1
    have f2 := BR2.frozen 2
    clear hk2 hb2 BX BR H1 mkS BR2
    go_wp2_with fail
    refine bodyPost_ret (v := .tuple #[.agg #[.bool false, .slice none 0 0, .slice none 0 0], .int .i64 r]) (by simp [results, Try.results19, go_sem, z0, z1, z2]) rfl ?_
    rw [hsp.out]
    exact ⟨_, rfl, IsF.zero _, (((HB0.out.trans (HK2.out.mono HB0.out.size)).setCell (p := ⟨w.heap.size + 1, 0, none⟩) (by simp) _).setCell (p := ⟨w.heap.size + 1, 1, none⟩) (by simp) _).setCell (p := ⟨w.heap.size + 1, 2, none⟩) (by simp) _⟩
end Go.Proofs.Ytebmegodeglobaa

namespace Go.Proofs.Ytebmegodeglobaa
open Go.RowKit

theorem putObj_grown (W : World) (l : Nat) (o : Obj) : W.grownBy (W.putObj l o) (some l) := grownBy_putObj' W l o
/-- How the body of a round may be left. -/
def quietPost (B : Nat) (C : Prop) (X : World → Prop) (w2 : World) : Exit → Act → World → Prop
  | .normal, _, W3 => C ∧ Below w2.heap.size w2 W3
  | .ret, _, W3 => X W3 ∧ w2.heap.size ≤ W3.heap.size ∧ ∀ b, B ≤ b → b < w2.heap.size → W3.heap[b]? = w2.heap[b]?
  | _, _, _ => False

theorem wpIn_range_quiet {P : Program} {F : Fence} {n : Nat} {g : Operand} {ps : Array Tmp} {assign body : Code} {Q : Exit → Act → World → Prop} {a : Act} {w : World}
    (hro : F.round = none) (h1 : 1 ≤ n) {gf : Nat} {lb : Array Value} (hg : a.eval g = .func (.func gf) #[] lb) (hFg : F.fn gf) (eg : ∀ args w, (callFunc gf args).run P w = .ok (.enter gf args) w) (hps : ps.size = 2)
    (N : Nat) (V : Nat → Value → World → Prop) (C : Nat → Prop) (X : Nat → World → Prop)
    (hiter : ∀ (l : Nat) (W1 : World) (Y : Nat → World → Prop), Below w.heap.size w W1 →
      (∀ (k : Nat) (v : Value) (W : World), k ≤ N → (∀ j, k < j → j ≤ N → C j) → Below W1.heap.size W1 W → V k v W →
        YieldAt F (n - 1 - 1) P l #[.int .i64 (k : Int), v] W fun e W' => (e = .returned (.bool true) ∧ C k ∧ Below W.heap.size W W') ∨ (e = .returned (.bool false) ∧ Y k W')) →
      CallsIn F (n - 1) P gf (#[.func (.yield l) #[] #[]] ++ lb) W1 fun e W' => (∃ v, e = .returned v) ∧ ((Below W1.heap.size W1 W' ∧ ∀ j, j ≤ N → C j) ∨ ∃ k, k ≤ N ∧ (∀ j, k < j → j ≤ N → C j) ∧ Y k W'))
    (A : Nat → Value → Act → World → World → Prop) (hA : ∀ k v a1 W w1, A k v a1 W w1 → Below W.heap.size W w1)
    (hassign : ∀ (l k : Nat) (v : Value) (W : World) (K : Act → World → Prop), k ≤ N → V k v W → (∀ a1 w1, A k v a1 W w1 → K a1 w1) →
      assign.wpIn (F.inRound l) (n - 1 - 1) P (Exit.then K (fun _ _ _ => False)) { tmps := (ps.zip #[.int .i64 (k : Int), v]).foldl (fun t (p, v) => t.setIfInBounds p v) a.tmps, defers := [] } W)
    (hbody : ∀ (l k : Nat) (v : Value) (W w1 w2 : World) (a1 : Act), k ≤ N → (∀ j, k < j → j ≤ N → C j) → Below w.heap.size w W → V k v W → A k v a1 W w1 → w.heap.size < l → l < W.heap.size → w1.grownBy w2 (some l) → ¬ Tag32 w1 l →
      body.wpIn (F.inRound l) (n - 1 - 1) P (quietPost w.heap.size (C k) (X k) w2) a1 w2)
    (hdone : ∀ W, Below w.heap.size w W → (∀ j, j ≤ N → C j) → W.heap[w.heap.size]? = some (.deferred (some [])) → Q .normal { a with defers := { target := .collected w.heap.size, args := #[] } :: a.defers } W)
    (hstop : ∀ (l k : Nat) (W3 W : World), k ≤ N → (∀ j, k < j → j ≤ N → C j) → X k W3 → w.heap.size < l → W3.grownBy W (some l) → ¬ Tag32 W3 l → W.heap[w.heap.size]? = some (.deferred (some [])) →
      Code.ret.wpIn F n P Q { a with defers := { target := .collected w.heap.size, args := #[] } :: a.defers } W) :
    (Code.rangeFunc g ps assign body).wpIn F n P Q a w := by
  refine wpIn_rangeFunc ?_
  intro fn hfn
  rw [hro]
  obtain ⟨rec, hrec⟩ : ∃ rec : LoopState → Option Code → Loop, rec = fun st pe => { state := st, pending := pe, fn, tmps := a.tmps, params := ps, assign, body, defers := w.heap.size } := ⟨_, rfl⟩
  obtain ⟨W1, hW1⟩ : ∃ W1, W1 = (w.alloc (.deferred (some []))).alloc (.loop (rec .ready none)) := ⟨_, rfl⟩
  have hw1 : Below w.heap.size w W1 := hW1 ▸ ((Below.refl _ w).alloc (Nat.le_refl _) _).alloc (by simp) _
  have hl1 : W1.heap[w.heap.size + 1]? = some (.loop (rec .ready none)) := by
    rw [hW1]; have := heap_alloc_new (w.alloc (.deferred (some []))) (.loop (rec .ready none)); rwa [World.size_alloc] at this
  have hd1 : W1.heap[w.heap.size]? = some (.deferred (some [])) := by
    rw [hW1]; exact (Below.heap_alloc _ _ _ (by simp)).trans (heap_alloc_new w _)
  have hs1 : W1.heap.size = w.heap.size + 2 := by rw [hW1]; simp
  have noTag : ∀ (W : World) (r : Loop), W.heap[w.heap.size + 1]? = some (.loop r) → ¬ Tag32 W (w.heap.size + 1) := by
    rintro W r h ⟨cs, fz, h'⟩
    rw [h] at h'
    cases h'
  refine ⟨w.heap.size + 1, [{ target := .collected w.heap.size, args := #[] }], W1, { target := .fn (.func gf) lb, args := #[.func (.yield (w.heap.size + 1)) #[] #[]] }, W1, gf, #[.func (.yield (w.heap.size + 1)) #[] #[]] ++ lb, W1, ?_, ?_, ?_, ?_, fun _ => h1, ?_⟩
  · rw [hW1, hrec]; exact run_enterLoop_outer _ _ _ _ _
  · simp only [resolve, hg]
    simp [go_sem]
  · intro f' hf'; simp [Target.leads] at hf'; subst hf'; exact hFg
  · simp [invoke, go_sem, eg]
  · refine (hiter (w.heap.size + 1) W1 (fun k W' => ∃ W3, X k W3 ∧ W3.heap[w.heap.size + 1]? = some (.loop (rec .busy none)) ∧ W3.heap[w.heap.size]? = some (.deferred (some [])) ∧ W' = W3.putObj (w.heap.size + 1) (.loop (rec .done (some .ret)))) hw1 ?_).mono ?_
    · -- a round
      intro k v W hk hC hb hv
      have hl : W.heap[w.heap.size + 1]? = some (.loop (rec .ready none)) := (hb.block _ (by omega)).trans hl1
      have hd : W.heap[w.heap.size]? = some (.deferred (some [])) := (hb.block _ (by omega)).trans hd1
      have hsz := hb.size
      have hy := run_yield (P := P) (args := #[.int .i64 (k : Int), v]) hl (by rw [hrec]; exact hps.symm)
      rw [hrec] at hy
      refine ⟨fn, _, assign, body, hy, roundIn_of_wpIn hfn (hassign _ k v W _ hk hv ?_)⟩
      intro a1 w1 ha
      have hbw1 := hA _ _ _ _ _ ha
      have hlw1 : w1.heap[w.heap.size + 1]? = some (.loop (rec .ready none)) := (hbw1.block _ (by omega)).trans hl
      have hdw1 : w1.heap[w.heap.size]? = some (.deferred (some [])) := (hbw1.block _ (by omega)).trans hd
      have hsw1 := hbw1.size
      have hbr := run_beginRound (P := P) hlw1 (by rw [hrec])
      refine ⟨_, hbr, ?_⟩
      have hrb : ({ rec .ready none with state := .busy } : Loop) = rec .busy none := by rw [hrec]
      rw [hrb]
      have hl2 : (w1.putObj (w.heap.size + 1) (.loop (rec .busy none))).heap[w.heap.size + 1]? = some (.loop (rec .busy none)) := World.putObj_heap_same (by omega)
      have hd2 : (w1.putObj (w.heap.size + 1) (.loop (rec .busy none))).heap[w.heap.size]? = some (.deferred (some [])) := (World.putObj_heap_other (by omega)).trans hdw1
      have hs2 : (w1.putObj (w.heap.size + 1) (.loop (rec .busy none))).heap.size = w1.heap.size := World.putObj_size
      refine wpIn_mono (hbody _ k v W w1 _ a1 hk hC (hw1.trans (hb.mono (by omega))) hv ha (by omega) (by omega) (putObj_grown _ _ _) (noTag _ _ hlw1)) ?_
      rintro e a3 W3 hp
      cases e with
      | normal =>
        obtain ⟨hc, hb3⟩ := hp
        have hl3 : W3.heap[w.heap.size + 1]? = some (.loop (rec .busy none)) := (hb3.block _ (by omega)).trans hl2
        have her := run_endRound (P := P) none hl3
        refine ⟨_, _, her, .inl ⟨rfl, hc, ?_⟩⟩
        have hre : ({ rec .busy none with state := if (none : Option Code).isNone then .ready else .done, pending := none } : Loop) = rec .ready none := by rw [hrec]; rfl
        rw [hre]
        have hs3 := hb3.size
        refine ⟨?_, ?_, ?_, ?_, ?_⟩
        · exact hb3.os.trans hbw1.os
        · exact hb3.tape.trans hbw1.tape
        · exact hb3.output.trans hbw1.output
        · rw [World.putObj_size]; omega
        · intro b hblt
          by_cases e : b = w.heap.size + 1
          · subst e
            rw [World.putObj_heap_same (by omega), hl]
          · rw [World.putObj_heap_other e, hb3.block b (by omega), World.putObj_heap_other e]
            exact hbw1.block b hblt
      | ret =>
        obtain ⟨hx, hs3, hkeep⟩ := hp
        have hl3 : W3.heap[w.heap.size + 1]? = some (.loop (rec .busy none)) := (hkeep _ (by omega) (by omega)).trans hl2
        have hd3 : W3.heap[w.heap.size]? = some (.deferred (some [])) := (hkeep _ (by omega) (by omega)).trans hd2
        have her := run_endRound (P := P) (some .ret) hl3
        refine ⟨_, _, her, .inr ⟨rfl, W3, hx, hl3, hd3, ?_⟩⟩
        rw [hrec]; rfl
      | exit id => exact hp.elim
      | goto t => exact hp.elim
      | panic ch => exact hp.elim
      | outgrown => exact hp.elim
    · -- behind the iterator
      rintro e W2 ⟨⟨v, rfl⟩, (⟨hb, hC⟩ | ⟨k, hk, hC, W3, hx, hl3, hd3, rfl⟩)⟩
      · have hl : W2.heap[w.heap.size + 1]? = some (.loop (rec .ready none)) := (hb.block _ (by omega)).trans hl1
        have hd : W2.heap[w.heap.size]? = some (.deferred (some [])) := (hb.block _ (by omega)).trans hd1
        have hel := run_endLoop (P := P) hl (by rw [hrec]; simp)
        have hpe : (rec .ready none).pending = none := by rw [hrec]
        rw [hpe] at hel
        refine ⟨none, _, hel, hdone _ ?_ hC ((World.putObj_heap_other (by omega)).trans hd)⟩
        exact (hw1.trans (hb.mono (by omega))).grown (putObj_grown _ _ _) (by have := hb.size; omega) (fun j e => by cases e; omega)
      · have hsl := (Array.getElem?_eq_some_iff.1 hl3).1
        have hl4 : (W3.putObj (w.heap.size + 1) (.loop (rec .done (some .ret)))).heap[w.heap.size + 1]? = some (.loop (rec .done (some .ret))) := World.putObj_heap_same hsl
        have hel := run_endLoop (P := P) hl4 (by rw [hrec]; simp)
        have hpe : (rec .done (some .ret)).pending = some .ret := by rw [hrec]
        rw [hpe] at hel
        refine ⟨some .ret, _, hel, hstop (w.heap.size + 1) k W3 _ hk hC hx (by omega) ?_ (noTag _ _ hl3) ?_⟩
        · have g1 := putObj_grown W3 (w.heap.size + 1) (.loop (rec .done (some .ret)))
          refine ⟨rfl, rfl, rfl, by simp, fun j hj hne => ?_⟩
          rw [World.putObj_heap_other (fun e => hne (by rw [e])), World.putObj_heap_other (fun e => hne (by rw [e]))]
        · rw [World.putObj_heap_other (by omega), World.putObj_heap_other (by omega)]
          exact hd3
end Go.Proofs.Ytebmegodeglobaa

namespace Go.Proofs.Ytebmegodeglobaa
open Go.RowKit

theorem sum2_t (w : World) (v : Value) (a b : Nat) (h : SlF w v [Wh a, Wh b]) (ha : (limbs a).length ≤ 32) (hb : (limbs b).length ≤ 32) (hab : (limbs (a + b)).length ≤ 32) :
    Calls Try.prog 66 #[v] w (RetF1 w (Wh (a + b))) := by
  have := tsum_t w v [a, b] h (by simp) (by simp) (by simp [ha, hb]) (fun i hi => by
    match i, hi with
    | 0, _ => show (limbs 0).length ≤ 32; rw [limbs_zero]; simp
    | 1, _ => show (limbs (a + 0)).length ≤ 32; rw [Nat.add_zero]; exact ha
    | 2, _ => show (limbs (a + (b + 0))).length ≤ 32; rw [Nat.add_zero]; exact hab)
  rwa [show sums [a, b] = a + b from by simp [sums]] at this

set_option maxRecDepth 100000 in
set_option maxHeartbeats 4000000 in
theorem down1_t (l m : Nat) (W1 : World) (S c2 c9 c10 n a c : Nat) (vi vj : Value) (hbox : Box W1 S #[.int .i64 (n : Int), .bool false, vi, vj, .func (.func 51) #[] #[.pointer (some ⟨c2, 0, none⟩), .pointer (some ⟨c9, 0, none⟩), .pointer (some ⟨c10, 0, none⟩)]] 79)
    (hpart : Part W1 c2 c9 c10 n a c) (hn : n ≤ 64) (hac : a + c ≤ 1000) (C : Nat → Prop) (Y : Nat → World → Prop)
    (hY : ∀ (k : Nat) (v : Value) (W : World), k ≤ n → (∀ j, k < j → j ≤ n → C j) → Below W1.heap.size W1 W → IsF W v (Wh (tl a c n k)) →
      YieldAt Fence.wide m Try.prog l #[.int .i64 (k : Int), v] W fun e W' => (e = .returned (.bool true) ∧ C k ∧ Below W.heap.size W W') ∨ (e = .returned (.bool false) ∧ Y k W')) :
    Calls Try.prog 65 #[.func (.yield l) #[] #[], .pointer (some ⟨S, 0, none⟩)] W1 fun e W' => (∃ v, e = .returned v) ∧ ((Below W1.heap.size W1 W' ∧ ∀ j, j ≤ n → C j) ∨ ∃ k, k ≤ n ∧ (∀ j, k < j → j ≤ n → C j) ∧ Y k W') := by
  have HBX := Lib.hid hbox
  have HP := Lib.hid hpart
  have HY := Lib.hid hY
  have HN := Lib.hid hn
  have HAC := Lib.hid hac
  have hlen : Hid (∀ k, (limbs (tl a c n k)).length ≤ 32) := fun k => Nat.le_trans (limbs_len_mono (tl_all_le a c n k)) (Nat.le_trans (pow_limbs hac hn) (by omega))
  have hlex : Hid (∀ k, (limbs (ex a c n k)).length ≤ 32) := fun k => Nat.le_trans (limbs_len_mono (ex_all_le a c n k)) (Nat.le_trans (pow_limbs hac hn) (by omega))
  clear hbox hpart hY hac
  go_enter Try.func65, Try.ntmps65
  go_wp2_with fail
  refine (whole_c _ 0 (by omega)).mono ?_
  rintro e w1 ⟨v1, rfl, hv1, hb1⟩
  obtain ⟨va, vb, rfl, h1, h2⟩ := hv1
  obtain ⟨p, cp, rfl, _, _⟩ := h1.shape
  obtain ⟨q, cq, rfl, _, _⟩ := h2.shape
  have s0 : w1.cell? ⟨S, 0, none⟩ = some (.int .i64 (n : Int)) := (HBX.out.after hb1).cell 0
  have hbn := (Below.refl w1.heap.size w1).alloc (Nat.le_refl _) (.cells #[.bool (Wh 0).neg, .slice p (Wh 0).num.length cp, .slice q (Wh 0).den.length cq] 26)
  have HI0 := Lib.hid (show IsF (w1.alloc (.cells #[.bool (Wh 0).neg, .slice p (Wh 0).num.length cp, .slice q (Wh 0).den.length cq] 26)) (.agg #[.bool false, .slice p (Wh 0).num.length cp, .slice q (Wh 0).den.length cq]) (Wh (tl a c n (n + 1))) from by
    rw [tl_gt (Nat.lt_succ_self n)]; exact ⟨_, _, rfl, h1.after hbn, h2.after hbn⟩)
  have HB1 := Lib.hid (hb1.trans (hbn.mono hb1.size))
  have hS1 := (HBX.out.after hb1).lt
  have hsz1 := hb1.size
  clear h1 h2 hb1 hbn
  go_wp2_with fail
  go_loopg [4] (n + 1) (fun g t wx => ∃ va vb : Value, g ≤ n + 1 ∧ t = .int .i64 ((g : Int) - 1) ∧ Box wx w1.heap.size #[.bool false, va, vb] 26 ∧ Hid (IsF wx (.agg #[.bool false, va, vb]) (Wh (tl a c n g))) ∧ Hid (Below W1.heap.size W1 wx) ∧ Hid (∀ j, g ≤ j → j ≤ n → C j))
  case atStart =>
    refine ⟨.slice p (Wh 0).num.length cp, .slice q (Wh 0).den.length cq, Nat.le_refl _, by go_num, Box.new w1 _ _, HI0.out, HB1.out, ?_⟩
    intro j h1 h2
    omega
  case round =>
    obtain ⟨va, vb, hg, rfl, hX, hI, hbl, hC⟩ := hrel
    clear HI0 HB1
    obtain ⟨_, h1, h2⟩ := hI.out.parts
    obtain ⟨pa, ca, rfl, _, _⟩ := h1.shape
    obtain ⟨pb, cb, rfl, _, _⟩ := h2.shape
    clear h1 h2
    rcases Nat.eq_zero_or_pos gk with hz | hpos
    · subst hz
      have hdec : decide ((0 : Int) ≤ ((0 : Nat) : Int) - 1) = false := by decide
      go_wp2_with fail
      go_end0
      exact ⟨⟨_, rfl⟩, .inl ⟨hbl.out, fun j hj => hC.out j (Nat.zero_le _) hj⟩⟩
    · obtain ⟨k, rfl⟩ : ∃ k, gk = k + 1 := ⟨gk - 1, by omega⟩
      have hkn : k ≤ n := by omega
      have hbx1 := HBX.out.after hbl.out
      have hf4 : wr.cell? ⟨S, 4, none⟩ = some (.func (.func 51) #[] #[.pointer (some ⟨c2, 0, none⟩), .pointer (some ⟨c9, 0, none⟩), .pointer (some ⟨c10, 0, none⟩)]) := hbx1.cell 4
      obtain ⟨x0, x1, x2⟩ := hX.cells3
      have HPW := Lib.hid (HP.out.after hbl.out)
      have HX := Lib.hid hX
      have hval : ((k + 1 : Nat) : Int) - 1 = (k : Int) := by omega
      have hsz2 := hbl.out.size
      have hlx := hX.lt
      have mkS : Hid (∀ w', Below W1.heap.size W1 w' → w'.cell? ⟨S, 4, none⟩ = some (.func (.func 51) #[] #[.pointer (some ⟨c2, 0, none⟩), .pointer (some ⟨c9, 0, none⟩), .pointer (some ⟨c10, 0, none⟩)])) := fun w' hb => (HBX.out.after hb).cell 4
      have htl : Hid (tl a c n (k + 1) + ex a c n k = tl a c n k) := by show _ = _; rw [tl_le hkn, Nat.add_comm]
      have hT : Hid (W1.heap.size ≤ w1.heap.size) := hsz1
      have L1 : Hid ((limbs (tl a c n (k + 1))).length ≤ 32) := hlen.out _
      have L2 : Hid ((limbs (ex a c n k)).length ≤ 32) := hlex.out _
      have L3 : Hid ((limbs (tl a c n (k + 1) + ex a c n k)).length ≤ 32) := by show _ ≤ _; rw [htl.out]; exact hlen.out _
      have HKN := Lib.hid hkn
      clear hbx1 hX
      rw [hval]
      have HVAL := Lib.hid hval
      clear hval
      go_upto_region 3 with fail
      go_region_with
        (first
         | (go_at_call 51; refine (part_t _ n a c k c2 c9 c10 ?_ HKN.out HN.out HAC.out).mono ?_; exact HPW.out.after (below_dr (Below.refl _ wr)); rintro e w2 ⟨v2, rfl, hv2, hb2⟩; have hb2' := below_of_drew hb2; have hk2 := hbl.out.trans (hb2'.mono hbl.out.size); have HV2 := Lib.hid hv2; obtain ⟨vx, vy, rfl, h3, h4⟩ := hv2; obtain ⟨p3, cp3, rfl, _, _⟩ := h3.shape; obtain ⟨q3, cq3, rfl, _, _⟩ := h4.shape; have y0 := keep_cell hb2' x0; have y1 := keep_cell hb2' x1; have y2 := keep_cell hb2' x2; clear h3 h4 hb2)
         | (go_at_call 66; refine (sum2_t _ _ (tl a c n (k + 1)) (ex a c n k) ?_ L1.out L2.out L3.out).mono ?_; exact SlF.two w2 (x := Wh (tl a c n (k + 1))) (y := Wh (ex a c n k)) (hI.out.after hb2') HV2.out rfl _; rw [htl.out]; rintro e w3 ⟨v3, rfl, hv3, hb3⟩; have hbA := (Below.refl w2.heap.size w2).alloc (Nat.le_refl _) (.cells #[.bool (Wh (tl a c n (k + 1))).neg, .slice pa (Wh (tl a c n (k + 1))).num.length ca, .slice pb (Wh (tl a c n (k + 1))).den.length cb, .bool (Wh (ex a c n k)).neg, .slice p3 (Wh (ex a c n k)).num.length cp3, .slice q3 (Wh (ex a c n k)).den.length cq3] 26); have hbB := hbA.trans (hb3.mono hbA.size); have hbC := hb2'.trans (hbB.mono hb2'.size); have hk3 := hbl.out.trans (hbC.mono hbl.out.size); have HX3 := HX.out.after hbC; obtain ⟨z0, z1, z2⟩ := HX3.cells3; have f0 := HX3.frozen 0; have f1 := HX3.frozen 1; have f2 := HX3.frozen 2; have HV3 := Lib.hid hv3; obtain ⟨vx, vy, rfl, h3, h4⟩ := hv3; obtain ⟨p4, cp4, rfl, _, _⟩ := h3.shape; obtain ⟨q4, cq4, rfl, _, _⟩ := h4.shape; have HS3 := Lib.hid h3; have HS4 := Lib.hid h4; clear h3 h4 hb3))
      all_goals
        have HX3' := Lib.hid HX3
        have HK3 := Lib.hid hk3
        clear hbA hbB hbC hk2 hk3 y0 y1 y2 z0 z1 z2 x0 x1 x2 hf4 HX3 hb2' mkS
        obtain ⟨W4, hW4⟩ : ∃ W4, W4 = ((w3.setCell ⟨w1.heap.size, 0, none⟩ (.bool (Wh (tl a c n k)).neg)).setCell ⟨w1.heap.size, 1, none⟩ (.slice p4 (Wh (tl a c n k)).num.length cp4)).setCell ⟨w1.heap.size, 2, none⟩ (.slice q4 (Wh (tl a c n k)).den.length cq4) := ⟨_, rfl⟩
        have hX4 : Box W4 w1.heap.size #[.bool (Wh (tl a c n k)).neg, .slice p4 (Wh (tl a c n k)).num.length cp4, .slice q4 (Wh (tl a c n k)).den.length cq4] 26 := by rw [hW4]; exact end_box HX3'.out
        have hI4 : IsF W4 (.agg #[.bool (Wh (tl a c n k)).neg, .slice p4 (Wh (tl a c n k)).num.length cp4, .slice q4 (Wh (tl a c n k)).den.length cq4]) (Wh (tl a c n k)) := by rw [hW4]; exact IsF.result HX3'.out (fun _ h => by cases h) (fun _ h => by cases h) HS3.out HS4.out
        have hb4 : Below W1.heap.size W1 W4 := by rw [hW4]; exact held_set (held_set (held_set HK3.out hT.out) hT.out) hT.out
        rw [← hW4]
        obtain ⟨x0, x1, x2⟩ := hX4.cells3
        have HX4 := Lib.hid hX4
        have HI4 := Lib.hid hI4
        have HB4 := Lib.hid hb4
        obtain ⟨fn, tmps, asg, bdy, hy, hR⟩ := HY.out k _ W4 HKN.out (fun j h1 h2 => hC.out j h1 h2) hb4 hI4
        clear hW4 hX4 hI4 hb4 f0 f1 f2 HX3' HK3
        go_upto_region 5 with fail
        refine (wpIn_wide (n := m + 1)).1 ?_
        gi_wp2
        refine hR.mono ?_
        rintro e W' (⟨rfl, hc, hb⟩ | ⟨rfl, hyy⟩)
        · have hbW := HB4.out.trans (hb.mono HB4.out.size)
          have HX5 := Lib.hid (HX4.out.after hb)
          have HI5 := Lib.hid (HI4.out.after hb)
          have HB5 := Lib.hid hbW
          have HCC := Lib.hid hc
          clear hb hbW hc hR hy x0 x1 x2
          gi_wp2
          go_wp2_with fail
          go_roundg k
          case measure => omega
          case rel =>
            refine ⟨_, _, by omega, by go_num, HX5.out, HI5.out, HB5.out, ?_⟩
            intro j h1 h2
            rcases Nat.lt_or_ge k j with h | h
            · exact hC.out j h h2
            · obtain rfl : j = k := by omega
              exact HCC.out
        · have HYY := Lib.hid hyy
          clear hyy hR hy x0 x1 x2
          gi_wp2
          go_wp2_with fail
          refine bodyPost_ret (results_none rfl _ _ _) rfl ?_
          exact ⟨⟨_, rfl⟩, .inr ⟨k, HKN.out, fun j h1 h2 => hC.out j h1 h2, HYY.out⟩⟩
end Go.Proofs.Ytebmegodeglobaa

namespace Go.Proofs.Ytebmegodeglobaa
open Go.RowKit Go.Shelf
attribute [local go_sem] Oper.semAt_some

theorem VarF.grown {w w' : World} {b : Nat} {x : F} {row : Option Nat} (h : VarF w b x) (hg : w.grownBy w' row) (hr : ∀ g, row = some g → ¬ Tag32 w g) (hb : some b ≠ row) : VarF w' b x := by
  obtain ⟨va, vb, h1, h2, h3⟩ := h
  exact ⟨va, vb, h1.grown hg hb, h2.grown hg hr, h3.grown hg hr⟩
theorem VarF.of_set {w : World} {R : Nat} {b : Bool} {x : F} {va vb : Value} (hR : Box w R #[.bool false, .slice none 0 0, .slice none 0 0] 26) (h : IsF w (.agg #[.bool b, va, vb]) x) : VarF (((w.setCell ⟨R, 0, none⟩ (.bool b)).setCell ⟨R, 1, none⟩ va).setCell ⟨R, 2, none⟩ vb) R x := by
  obtain ⟨e, ha, hb⟩ := h.parts
  injection e with e
  subst e
  obtain ⟨_, h1, h2⟩ := (IsF.result (neg := x.neg) hR (fun _ h => by cases h) (fun _ h => by cases h) ha hb).parts
  exact ⟨va, vb, end_box hR, h1, h2⟩
theorem set3_below {B : Nat} {w w2 : World} {R : Nat} {y0 y1 y2 : Value} (h : Below B w w2) (hR : B ≤ R) : Below B w (((w2.setCell ⟨R, 0, none⟩ y0).setCell ⟨R, 1, none⟩ y1).setCell ⟨R, 2, none⟩ y2) := ((h.setCell hR _).setCell hR _).setCell hR _
theorem set3_block {w2 : World} {R b : Nat} {y0 y1 y2 : Value} (h : b ≠ R) : (((w2.setCell ⟨R, 0, none⟩ y0).setCell ⟨R, 1, none⟩ y1).setCell ⟨R, 2, none⟩ y2).heap[b]? = w2.heap[b]? :=
  (Below.heap_setCell _ ⟨R, 2, none⟩ _ b h).trans ((Below.heap_setCell _ ⟨R, 1, none⟩ _ b h).trans (Below.heap_setCell _ ⟨R, 0, none⟩ _ b h))
theorem set3_size {w2 : World} {R : Nat} {y0 y1 y2 : Value} : (((w2.setCell ⟨R, 0, none⟩ y0).setCell ⟨R, 1, none⟩ y1).setCell ⟨R, 2, none⟩ y2).heap.size = w2.heap.size := by simp [World.setCell]
theorem noTag_def {W : World} {D : Nat} {o : Obj} (h : W.heap[D]? = some o) (ho : o.isCells = false) : ∀ g, some D = some g → ¬ Tag32 W g := by
  rintro g e ⟨cs, fz, h'⟩
  injection e with e
  subst e
  rw [h] at h'
  injection h' with h'
  subst h'
  cases ho
/-- The five cells of a spread. -/
def spCells (n : Nat) (va vb : Value) (c2 c9 c10 : Nat) : Array Value := #[.int .i64 (n : Int), .bool false, va, vb, .func (.func 51) #[] #[.pointer (some ⟨c2, 0, none⟩), .pointer (some ⟨c9, 0, none⟩), .pointer (some ⟨c10, 0, none⟩)]]

set_option maxRecDepth 100000 in
set_option maxHeartbeats 1000000 in
theorem down_t (w : World) (n c2 c9 c10 : Nat) (p q : Option Addr) (l1 l2 k1 k2 : Nat) :
    Calls Try.prog 43 #[.agg #[.int .i64 (n : Int), .bool false, .slice p l1 k1, .slice q l2 k2, .func (.func 51) #[] #[.pointer (some ⟨c2, 0, none⟩), .pointer (some ⟨c9, 0, none⟩), .pointer (some ⟨c10, 0, none⟩)]]] w
      fun e w' => e = .returned (.func (.func 65) #[] #[.pointer (some ⟨w.heap.size, 0, none⟩)]) ∧ w' = w.alloc (.cells (spCells n (.slice p l1 k1) (.slice q l2 k2) c2 c9 c10) 79) := by
  go_enter Try.func43, Try.ntmps43
  go_wp2
  go_ret
  exact ⟨rfl, rfl⟩

end Go.Proofs.Ytebmegodeglobaa

namespace Go.Proofs.Ytebmegodeglobaa
open Go.RowKit

/-- What Tail returns. -/
noncomputable def tailF (n k : Int) (p : F) : F × Int :=
  if checkE p (trialsB n k (IntKind.i64.wrap (n + 1))) = 0 then made false (tl (val p.num) (val p.den - val p.num) n.toNat k.toNat) (val p.den ^ n.toNat) else (F0, checkE p (trialsB n k (IntKind.i64.wrap (n + 1))))

theorem keep5s {W : World} {R X : Nat} {u0 u1 u2 z a b c d : Value} (h : R ≠ X) (hs : W.cell? ⟨X, 0, none⟩ = some z ∧ W.cell? ⟨X, 1, none⟩ = some a ∧ W.cell? ⟨X, 2, none⟩ = some b ∧ W.cell? ⟨X, 3, none⟩ = some c ∧ W.cell? ⟨X, 4, none⟩ = some d) :
    (((W.setCell ⟨R, 0, none⟩ u0).setCell ⟨R, 1, none⟩ u1).setCell ⟨R, 2, none⟩ u2).cell? ⟨X, 0, none⟩ = some z ∧ (((W.setCell ⟨R, 0, none⟩ u0).setCell ⟨R, 1, none⟩ u1).setCell ⟨R, 2, none⟩ u2).cell? ⟨X, 1, none⟩ = some a ∧ (((W.setCell ⟨R, 0, none⟩ u0).setCell ⟨R, 1, none⟩ u1).setCell ⟨R, 2, none⟩ u2).cell? ⟨X, 2, none⟩ = some b ∧
    (((W.setCell ⟨R, 0, none⟩ u0).setCell ⟨R, 1, none⟩ u1).setCell ⟨R, 2, none⟩ u2).cell? ⟨X, 3, none⟩ = some c ∧ (((W.setCell ⟨R, 0, none⟩ u0).setCell ⟨R, 1, none⟩ u1).setCell ⟨R, 2, none⟩ u2).cell? ⟨X, 4, none⟩ = some d :=
  ⟨(keep_far3 h 0).trans hs.1, keep4s h hs.2⟩

end Go.Proofs.Ytebmegodeglobaa
