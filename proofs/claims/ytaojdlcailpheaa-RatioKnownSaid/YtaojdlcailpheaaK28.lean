/- Walks of package ratio: Simplest.
   Plain: the values of the chapter's examples. -/
import Derived.Test.YtaojdlcailpheaaK21
import Derived.Test.YtaojdlcailpheaaK27
import Derived.Test.YtaojdlcailpheaaK19
set_option linter.unusedVariables false
namespace Go.Proofs.Ytaojdlcailpheaa
open Go.RowKit

theorem simplest_n (w : World) (v u : Value) (s t : Bool) (a b c d : Nat) (h : IsF w v (fr s a b)) (k : IsF w u (fr t c d)) (ha : 0 < a) (hb : 0 < b) (hc : 0 < c) (hd : 0 < d) (hle : a * d ≤ c * b)
    (la : (limbs a).length ≤ 32) (lb : (limbs b).length ≤ 32) (lc : (limbs c).length ≤ 32) (ld : (limbs d).length ≤ 32) :
    Calls Try.prog 79 #[v, u] w (RetF1 w (fr false (simpN a b c d).1 (simpN a b c d).2)) := by
  have h1 := simplest_c w v u s t a b c d h k ha hb hc hd la lb lc ld
  have h2 := (simp_same _ a b c d Ch.begun rfl hb hd hle).1
  have e1 := congrArg Prod.fst h2
  have e2 := congrArg Prod.snd h2
  simp only [Ch.app, Ch.begun, Nat.one_mul, Nat.zero_mul, Nat.add_zero, Nat.zero_add] at e1 e2
  rw [show Ch.begun = (⟨1, 0, 0, 1⟩ : Ch) from rfl, e1, e2] at h1
  exact h1
/-- What Simplest returns. -/
noncomputable def simplestF (x y : F) : F × Int :=
  open Classical in
  if ¬ (ValidF x ∧ ValidF y) then (F0, 1)
  else if 0 < ordN x.neg (val x.num) (val x.den) y.neg (val y.num) (val y.den) then (F0, 2)
  else if y.neg = true then (fr true (simpN (val y.num) (val y.den) (val x.num) (val x.den)).1 (simpN (val y.num) (val y.den) (val x.num) (val x.den)).2, 0)
  else if x.neg = true ∨ val x.num = 0 then (fr false 0 1, 0)
  else (fr false (simpN (val x.num) (val x.den) (val y.num) (val y.den)).1 (simpN (val x.num) (val x.den) (val y.num) (val y.den)).2, 0)
theorem simplestF_no {x y : F} (h : ¬ (ValidF x ∧ ValidF y)) : simplestF x y = (F0, 1) := by unfold simplestF; rw [if_pos h]
theorem simplestF_fr {s t : Bool} {a b c d : Nat} (h : Ok s a b) (k : Ok t c d) : simplestF (fr s a b) (fr t c d) =
    if 0 < ordN s a b t c d then (F0, 2) else if t = true then (fr true (simpN c d a b).1 (simpN c d a b).2, 0) else if s = true ∨ a = 0 then (fr false 0 1, 0) else (fr false (simpN a b c d).1 (simpN a b c d).2, 0) := by
  unfold simplestF
  rw [if_neg (fun e => e ⟨validF_fr.2 h, validF_fr.2 k⟩)]
  simp only [fr, val_limbs]
theorem simp_pos {a b c d : Nat} (ha : 0 < a) (hb : 0 < b) (hd : 0 < d) (hle : a * d ≤ c * b) : 0 < (simpN a b c d).1 := by
  obtain ⟨h1, h2, _, _⟩ := simp_min _ a b c d rfl hb hd hle
  rcases Nat.eq_zero_or_pos (simpN a b c d).1 with h0 | h0
  · rw [h0, Nat.zero_mul] at h2
    have := Nat.mul_pos ha h1
    omega
  · exact h0
theorem simp_len {a b c d : Nat} (hb : 0 < b) (hd : 0 < d) (hle : a * d ≤ c * b) (la : (limbs a).length ≤ 32) (lb : (limbs b).length ≤ 32) : (limbs (simpN a b c d).1).length ≤ 32 ∧ (limbs (simpN a b c d).2).length ≤ 32 := by
  obtain ⟨_, _, _, h4⟩ := simp_min _ a b c d rfl hb hd hle
  obtain ⟨k1, k2⟩ := h4 a b hb (Nat.le_refl _) hle
  exact ⟨Nat.le_trans (limbs_len_mono k2) la, Nat.le_trans (limbs_len_mono k1) lb⟩
theorem ord_pos {a b c d : Nat} (h : ¬ 0 < ordN false a b false c d) : a * d ≤ c * b := by
  unfold ordN at h
  simp only [if_true, Bool.false_eq_true, if_false] at h
  by_cases h1 : a * d < c * b
  · omega
  · rw [if_neg h1] at h
    by_cases h2 : a * d = c * b
    · omega
    · rw [if_neg h2] at h; omega
theorem ord_neg {a b c d : Nat} (h : ¬ 0 < ordN true a b true c d) : c * b ≤ a * d := by
  unfold ordN at h
  simp only [if_true] at h
  by_cases h1 : a * d < c * b
  · rw [if_pos h1] at h; omega
  · omega
theorem ord_bad {a b c d : Nat} : 0 < ordN false a b true c d := by unfold ordN; simp
theorem turn_fr {s : Bool} {n d : Nat} (h : 0 < n) : turnF (fr s n d) = fr (!s) n d := by
  unfold turnF fr
  have := limbs_len_pos h
  simp [this]

set_option maxRecDepth 100000 in
set_option maxHeartbeats 4000000 in
theorem Simplest_c (w : World) (v u : Value) (x y : F) (h : IsF w v x) (k : IsF w u y) : Calls Try.prog 39 #[v, u] w (RetF w (simplestF x y)) := by
  have HX := h
  have HY := k
  obtain ⟨va, vb, rfl, h1, h2⟩ := h
  obtain ⟨vc, vd, rfl, h3, h4⟩ := k
  obtain ⟨W0, hW, bx, by', br, hsz, hb0⟩ := start3 w #[.bool x.neg, va, vb] #[.bool y.neg, vc, vd] #[.bool false, .slice none 0 0, .slice none 0 0] 25
  have H1 := Lib.hid (HX.after hb0)
  have H2 := Lib.hid (HY.after hb0)
  have HB0 := Lib.hid hb0
  have BX := Lib.hid bx
  have BY := Lib.hid by'
  have BR := Lib.hid br
  clear HX HY bx by' br hb0
  by_cases hv : ValidF x ∧ ValidF y
  · have hv' := Lib.hid hv
    obtain ⟨s, a, b, rfl, hok⟩ : ∃ s a b, x = fr s a b ∧ Ok s a b := ⟨_, _, _, hv.1.eq, hv.1.2.2⟩
    obtain ⟨t, c, d, rfl, hok2⟩ : ∃ s a b, y = fr s a b ∧ Ok s a b := ⟨_, _, _, hv.2.eq, hv.2.2.2⟩
    obtain ⟨p0, k0, rfl, _, _⟩ := h1.shape
    obtain ⟨p1, k1, rfl, _, _⟩ := h2.shape
    obtain ⟨p2, k2, rfl, _, _⟩ := h3.shape
    obtain ⟨p3, k3, rfl, _, _⟩ := h4.shape
    replace H1 : Hid (IsF W0 (.agg #[.bool s, .slice p0 (limbs a).length k0, .slice p1 (limbs b).length k1]) (fr s a b)) := H1
    replace H2 : Hid (IsF W0 (.agg #[.bool t, .slice p2 (limbs c).length k2, .slice p3 (limbs d).length k3]) (fr t c d)) := H2
    replace BX : Hid (Box W0 w.heap.size #[.bool s, .slice p0 (limbs a).length k0, .slice p1 (limbs b).length k1] 25) := BX
    replace BY : Hid (Box W0 (w.heap.size + 1) #[.bool t, .slice p2 (limbs c).length k2, .slice p3 (limbs d).length k3] 25) := BY
    replace hW : W0 = ((w.alloc (.cells #[.bool s, .slice p0 (limbs a).length k0, .slice p1 (limbs b).length k1] 25)).alloc (.cells #[.bool t, .slice p2 (limbs c).length k2, .slice p3 (limbs d).length k3] 25)).alloc (.cells #[.bool false, .slice none 0 0, .slice none 0 0] 25) := hW
    rw [simplestF_fr hok hok2]
    show Calls _ _ #[.agg #[.bool s, .slice p0 (limbs a).length k0, .slice p1 (limbs b).length k1], .agg #[.bool t, .slice p2 (limbs c).length k2, .slice p3 (limbs d).length k3]] w _
    have la : (limbs a).length ≤ 32 := hok.n32
    have lb : (limbs b).length ≤ 32 := hok.d32
    have lc : (limbs c).length ≤ 32 := hok2.n32
    have ld : (limbs d).length ≤ 32 := hok2.d32
    have hb : 0 < b := hok.pos
    have hd : 0 < d := hok2.pos
    have hsg : Hid (s = true → 0 < a) := fun e => by
      rcases Nat.eq_zero_or_pos a with h0 | h0
      · have := hok.sign h0; rw [e] at this; cases this
      · exact h0
    have htg : Hid (t = true → 0 < c) := fun e => by
      rcases Nat.eq_zero_or_pos c with h0 | h0
      · have := hok2.sign h0; rw [e] at this; cases this
      · exact h0
    clear hv hok hok2 h1 h2 h3 h4
    by_cases hord : 0 < ordN s a b t c d
    · rw [if_pos hord]
      obtain ⟨oo, hoo⟩ : ∃ oo, ordN s a b t c d = oo := ⟨_, rfl⟩
      have HOO := Lib.hid hoo
      rw [hoo] at hord
      clear hoo
      obtain ⟨c0, c1, c2⟩ := BX.out.cells3
      obtain ⟨d0, d1, d2⟩ := BY.out.cells3
      go_enter Try.func39, Try.ntmps39
      go_upto_region 1 with fail
      rw [← hW]
      clear hW
      go_wp2_with fail
      refine (both_c _ _ _ _ _ H1.out H2.out).mono ?_
      intro e w1 hr
      obtain ⟨rfl, hb1⟩ := hr.yes hv'.out
      replace BX := Lib.hid (BX.out.after hb1)
      replace BY := Lib.hid (BY.out.after hb1)
      replace BR := Lib.hid (BR.out.after hb1)
      replace H1 := Lib.hid (H1.out.after hb1)
      replace H2 := Lib.hid (H2.out.after hb1)
      replace HB0 := Lib.hid (HB0.out.trans (hb1.mono HB0.out.size))
      clear hr hb1 c0 c1 c2 d0 d1 d2 hv'
      obtain ⟨c0, c1, c2⟩ := BX.out.cells3
      obtain ⟨d0, d1, d2⟩ := BY.out.cells3
      go_wp2_with fail
      refine (order_c w1 _ _ s t a b c d H1.out H2.out (by omega) (by omega) (by omega) (by omega)).mono ?_
      rw [HOO.out]
      rintro e w2 ⟨rfl, hb2⟩
      replace BX := Lib.hid (BX.out.after hb2)
      replace BY := Lib.hid (BY.out.after hb2)
      replace BR := Lib.hid (BR.out.after hb2)
      replace H1 := Lib.hid (H1.out.after hb2)
      replace H2 := Lib.hid (H2.out.after hb2)
      replace HB0 := Lib.hid (HB0.out.trans (hb2.mono HB0.out.size))
      clear hb2 c0 c1 c2 d0 d1 d2
      obtain ⟨r0, r1, r2⟩ := BR.out.cells3
      have f0 := BR.out.frozen 0
      have f1 := BR.out.frozen 1
      have f2 := BR.out.frozen 2
      have hltr := BR.out.lt
      go_wp2_with fail
      obtain ⟨e0, e1, e2⟩ := (end_box BR.out (y0 := .bool false) (y1 := .slice none 0 0) (y2 := .slice none 0 0)).cells3
      refine bodyPost_ret (v := .tuple #[.agg #[.bool false, .slice none 0 0, .slice none 0 0], .int .i64 2]) (by simp [results, Try.results39, go_sem, e0, e1, e2]) rfl ?_
      exact ⟨_, rfl, IsF.zero _, ((HB0.out.setCell (p := ⟨w.heap.size + 2, 0, none⟩) (by simp) _).setCell (p := ⟨w.heap.size + 2, 1, none⟩) (by simp) _).setCell (p := ⟨w.heap.size + 2, 2, none⟩) (by simp) _⟩
    · rw [if_neg hord]
      have HORD := Lib.hid hord
      obtain ⟨oo, hoo⟩ : ∃ oo, ordN s a b t c d = oo := ⟨_, rfl⟩
      have HOO := Lib.hid hoo
      rw [hoo] at hord
      clear hoo
      cases t with
      | true =>
        cases s with
        | false => exact absurd ord_bad HORD.out
        | true =>
          rw [if_pos rfl]
          have ha := hsg.out rfl
          have hc := htg.out rfl
          have hle := ord_neg HORD.out
          obtain ⟨l1, l2⟩ := simp_len hd hb hle lc ld
          have hpos := simp_pos hc hd hb hle
          obtain ⟨p, hp⟩ : ∃ p, simpN c d a b = p := ⟨_, rfl⟩
          have HP := Lib.hid hp
          have HLE := Lib.hid hle
          rw [hp] at l1 l2 hpos ⊢
          clear hp hle
          have HT1 : Hid (turnF (fr true c d) = fr false c d) := turn_fr hc
          have HT2 : Hid (turnF (fr true a b) = fr false a b) := turn_fr ha
          have HT3 : Hid (turnF (fr false p.1 p.2) = fr true p.1 p.2) := turn_fr hpos
          obtain ⟨c0, c1, c2⟩ := BX.out.cells3
          obtain ⟨d0, d1, d2⟩ := BY.out.cells3
          go_enter Try.func39, Try.ntmps39
          go_upto_region 1 with fail
          rw [← hW]
          clear hW
          go_wp2_with fail
          refine (both_c _ _ _ _ _ H1.out H2.out).mono ?_
          intro e w1 hr
          obtain ⟨rfl, hb1⟩ := hr.yes hv'.out
          replace BX := Lib.hid (BX.out.after hb1)
          replace BY := Lib.hid (BY.out.after hb1)
          replace BR := Lib.hid (BR.out.after hb1)
          replace H1 := Lib.hid (H1.out.after hb1)
          replace H2 := Lib.hid (H2.out.after hb1)
          replace HB0 := Lib.hid (HB0.out.trans (hb1.mono HB0.out.size))
          clear hr hb1 c0 c1 c2 d0 d1 d2 hv'
          obtain ⟨c0, c1, c2⟩ := BX.out.cells3
          obtain ⟨d0, d1, d2⟩ := BY.out.cells3
          go_wp2_with fail
          refine (order_c w1 _ _ true true a b c d H1.out H2.out (by omega) (by omega) (by omega) (by omega)).mono ?_
          rw [HOO.out]
          rintro e w2 ⟨rfl, hb2⟩
          replace BX := Lib.hid (BX.out.after hb2)
          replace BY := Lib.hid (BY.out.after hb2)
          replace BR := Lib.hid (BR.out.after hb2)
          replace H1 := Lib.hid (H1.out.after hb2)
          replace H2 := Lib.hid (H2.out.after hb2)
          replace HB0 := Lib.hid (HB0.out.trans (hb2.mono HB0.out.size))
          clear hb2 c0 c1 c2 d0 d1 d2
          have mkS : Hid (∀ w', Below w2.heap.size w2 w' → w'.cell? ⟨w.heap.size, 0, none⟩ = some (.bool true) ∧ w'.cell? ⟨w.heap.size, 1, none⟩ = some (.slice p0 (limbs a).length k0) ∧ w'.cell? ⟨w.heap.size, 2, none⟩ = some (.slice p1 (limbs b).length k1) ∧ w'.cell? ⟨w.heap.size + 1, 0, none⟩ = some (.bool true) ∧ w'.cell? ⟨w.heap.size + 1, 1, none⟩ = some (.slice p2 (limbs c).length k2) ∧ w'.cell? ⟨w.heap.size + 1, 2, none⟩ = some (.slice p3 (limbs d).length k3)) := fun w' hw => by
            obtain ⟨c0, c1, c2⟩ := (BX.out.after hw).cells3
            obtain ⟨d0, d1, d2⟩ := (BY.out.after hw).cells3
            exact ⟨c0, c1, c2, d0, d1, d2⟩
          obtain ⟨c0, c1, c2⟩ := BX.out.cells3
          obtain ⟨d0, d1, d2⟩ := BY.out.cells3
          have HD2 : Hid (IsF w2.drew (.agg #[.bool true, .slice p2 (limbs c).length k2, .slice p3 (limbs d).length k3]) (fr true c d)) := H2.out.after (below_dr (Below.refl _ _))
          have hltx := BX.out.lt
          have hlty := BY.out.lt
          go_upto_region 6 with fail
          go_region_held3 (fun w' => w'.cell? ⟨w.heap.size, 0, none⟩ = some (.bool true) ∧ w'.cell? ⟨w.heap.size, 1, none⟩ = some (.slice p0 (limbs a).length k0) ∧ w'.cell? ⟨w.heap.size, 2, none⟩ = some (.slice p1 (limbs b).length k1) ∧ w'.cell? ⟨w.heap.size + 1, 0, none⟩ = some (.bool true) ∧ w'.cell? ⟨w.heap.size + 1, 1, none⟩ = some (.slice p2 (limbs c).length k2) ∧ w'.cell? ⟨w.heap.size + 1, 2, none⟩ = some (.slice p3 (limbs d).length k3))
            (first | (refine mkS.out _ ?_; (repeat (first | with_reducible exact hk4 | with_reducible exact hk3 | with_reducible exact hk2 | with_reducible exact hk1 | with_reducible exact Below.refl _ _ | with_reducible refine below_dr ?_)); done) | (with_reducible exact keep6s (by omega) (by omega) (mkS.out _ hk4)))
            (first
             | (go_at_call 67; ((with_reducible refine (turned_c w2.drew (.agg #[.bool true, .slice p2 (limbs c).length k2, .slice p3 (limbs d).length k3]) (fr true c d) HD2.out).mono ?_); rw [HT1.out]; rintro e wa ⟨v1, rfl, hv1, hb1⟩; have hk1 : Below w2.heap.size w2 wa := below_of_drew hb1; obtain ⟨vx, vy, rfl, i1, i2⟩ := hv1; obtain ⟨y0, z0, rfl, _, _⟩ := i1.shape; obtain ⟨y1, z1, rfl, _, _⟩ := i2.shape; have hv1 := IsF.at_ i1 i2; clear i1 i2))
             | (go_at_call 67; ((with_reducible refine (turned_c wa (.agg #[.bool true, .slice p0 (limbs a).length k0, .slice p1 (limbs b).length k1]) (fr true a b) (H1.out.after hk1)).mono ?_); rw [HT2.out]; rintro e wb ⟨v2, rfl, hv2, hb2⟩; have hv1b := hv1.after hb2; have hk2 : Below w2.heap.size w2 wb := hk1.trans (hb2.mono hk1.size); obtain ⟨vx, vy, rfl, i1, i2⟩ := hv2; obtain ⟨y2, z2, rfl, _, _⟩ := i1.shape; obtain ⟨y3, z3, rfl, _, _⟩ := i2.shape; have hv2 := IsF.at_ i1 i2; clear i1 i2))
             | (go_at_call 79; refine (simplest_n wb _ _ false false c d a b hv1b hv2 hc hd ha hb HLE.out lc ld la lb).mono ?_; rw [HP.out]; rintro e wc ⟨v3, rfl, hv3, hb3⟩; have hk3 : Below w2.heap.size w2 wc := hk2.trans (hb3.mono hk2.size); obtain ⟨vx, vy, rfl, i1, i2⟩ := hv3; obtain ⟨y4, z4, rfl, _, _⟩ := i1.shape; obtain ⟨y5, z5, rfl, _, _⟩ := i2.shape; have hv3 := IsF.at_ i1 i2; clear i1 i2)
             | (go_at_call 67; ((with_reducible refine (turned_c wc _ (fr false p.1 p.2) hv3).mono ?_); rw [HT3.out]; rintro e wd ⟨v4, rfl, hv4, hb4⟩; have hk4 : Below w2.heap.size w2 wd := hk3.trans (hb4.mono hk3.size); obtain ⟨vx, vy, rfl, i1, i2⟩ := hv4; obtain ⟨y6, z6, rfl, _, _⟩ := i1.shape; obtain ⟨y7, z7, rfl, _, _⟩ := i2.shape; have hv4 := IsF.at_ i1 i2; clear i1 i2; have BRd := Lib.hid (BR.out.after hk4); obtain ⟨r0, r1, r2⟩ := BRd.out.cells3; have f0 := BRd.out.frozen 0; have f1 := BRd.out.frozen 1; have f2 := BRd.out.frozen 2; have hltr := BRd.out.lt))
             | (fail))
          obtain ⟨_, i1, i2⟩ := hv4.parts
          have HI1 := Lib.hid i1
          have HI2 := Lib.hid i2
          have HBd := Lib.hid (HB0.out.trans (hk4.mono HB0.out.size))
          clear hk1 hk2 hk3 hk4 hb1 hb2 hb3 hb4 hv1 hv2 hv3 hv4 hv1b mkS i1 i2 c0 c1 c2 d0 d1 d2
          go_wp2_with fail
          obtain ⟨e0, e1, e2⟩ := (end_box BRd.out (y0 := .bool (fr true p.1 p.2).neg) (y1 := .slice y6 (fr true p.1 p.2).num.length z6) (y2 := .slice y7 (fr true p.1 p.2).den.length z7)).cells3
          refine bodyPost_ret (v := .tuple #[.agg #[.bool (fr true p.1 p.2).neg, .slice y6 (fr true p.1 p.2).num.length z6, .slice y7 (fr true p.1 p.2).den.length z7], .int .i64 0]) (by simp [results, Try.results39, go_sem, e0, e1, e2]) rfl ?_
          exact ⟨_, rfl, IsF.result BRd.out (fun _ h => by cases h) (fun _ h => by cases h) HI1.out HI2.out, ((HBd.out.setCell (p := ⟨w.heap.size + 2, 0, none⟩) (by simp) _).setCell (p := ⟨w.heap.size + 2, 1, none⟩) (by simp) _).setCell (p := ⟨w.heap.size + 2, 2, none⟩) (by simp) _⟩
      | false =>
        rw [if_neg (by simp)]
        cases s with
        | true =>
          rw [if_pos (.inl rfl)]
          obtain ⟨c0, c1, c2⟩ := BX.out.cells3
          obtain ⟨d0, d1, d2⟩ := BY.out.cells3
          go_enter Try.func39, Try.ntmps39
          go_upto_region 1 with fail
          rw [← hW]
          clear hW
          go_wp2_with fail
          refine (both_c _ _ _ _ _ H1.out H2.out).mono ?_
          intro e w1 hr
          obtain ⟨rfl, hb1⟩ := hr.yes hv'.out
          replace BX := Lib.hid (BX.out.after hb1)
          replace BY := Lib.hid (BY.out.after hb1)
          replace BR := Lib.hid (BR.out.after hb1)
          replace H1 := Lib.hid (H1.out.after hb1)
          replace H2 := Lib.hid (H2.out.after hb1)
          replace HB0 := Lib.hid (HB0.out.trans (hb1.mono HB0.out.size))
          clear hr hb1 c0 c1 c2 d0 d1 d2 hv'
          obtain ⟨c0, c1, c2⟩ := BX.out.cells3
          obtain ⟨d0, d1, d2⟩ := BY.out.cells3
          go_wp2_with fail
          refine (order_c w1 _ _ true false a b c d H1.out H2.out (by omega) (by omega) (by omega) (by omega)).mono ?_
          rw [HOO.out]
          rintro e w2 ⟨rfl, hb2⟩
          replace BX := Lib.hid (BX.out.after hb2)
          replace BY := Lib.hid (BY.out.after hb2)
          replace BR := Lib.hid (BR.out.after hb2)
          replace H1 := Lib.hid (H1.out.after hb2)
          replace H2 := Lib.hid (H2.out.after hb2)
          replace HB0 := Lib.hid (HB0.out.trans (hb2.mono HB0.out.size))
          clear hb2 c0 c1 c2 d0 d1 d2
          obtain ⟨c0, c1, c2⟩ := BX.out.cells3
          obtain ⟨d0, d1, d2⟩ := BY.out.cells3
          go_wp2_with fail
          refine (unit_c _).mono ?_
          rintro e wc ⟨v3, rfl, hv3, hb3⟩
          obtain ⟨y4, z4, rfl, _, _⟩ := hv3.shape
          have HI2 := Lib.hid hv3
          have HBd := Lib.hid (HB0.out.trans (hb3.mono HB0.out.size))
          have BRd := Lib.hid (BR.out.after hb3)
          clear hv3 hb3 c0 c1 c2 d0 d1 d2
          obtain ⟨r0, r1, r2⟩ := BRd.out.cells3
          have f0 := BRd.out.frozen 0
          have f1 := BRd.out.frozen 1
          have f2 := BRd.out.frozen 2
          have hltr := BRd.out.lt
          go_wp2_with fail
          obtain ⟨e0, e1, e2⟩ := (end_box BRd.out (y0 := .bool false) (y1 := .slice none 0 0) (y2 := .slice y4 (limbs 1).length z4)).cells3
          refine bodyPost_ret (v := .tuple #[.agg #[.bool false, .slice none 0 0, .slice y4 (limbs 1).length z4], .int .i64 0]) (by simp [results, Try.results39, go_sem, e0, e1, e2]) rfl ?_
          exact ⟨_, rfl, by rw [show fr false 0 1 = ⟨false, [], limbs 1⟩ from by simp [fr, limbs_zero]]; exact IsF.result BRd.out (fun _ h => by cases h) (fun _ h => by cases h) (Sl.nil _) HI2.out, ((HBd.out.setCell (p := ⟨w.heap.size + 2, 0, none⟩) (by simp) _).setCell (p := ⟨w.heap.size + 2, 1, none⟩) (by simp) _).setCell (p := ⟨w.heap.size + 2, 2, none⟩) (by simp) _⟩
        | false =>
          rcases Nat.eq_zero_or_pos a with h0 | h0
          · rw [if_pos (.inr h0)]
            have hz : (((limbs a).length : Int) == 0) = true := by rw [h0, limbs_zero]; rfl
            clear h0
            obtain ⟨c0, c1, c2⟩ := BX.out.cells3
            obtain ⟨d0, d1, d2⟩ := BY.out.cells3
            go_enter Try.func39, Try.ntmps39
            go_upto_region 1 with fail
            rw [← hW]
            clear hW
            go_wp2_with fail
            refine (both_c _ _ _ _ _ H1.out H2.out).mono ?_
            intro e w1 hr
            obtain ⟨rfl, hb1⟩ := hr.yes hv'.out
            replace BX := Lib.hid (BX.out.after hb1)
            replace BY := Lib.hid (BY.out.after hb1)
            replace BR := Lib.hid (BR.out.after hb1)
            replace H1 := Lib.hid (H1.out.after hb1)
            replace H2 := Lib.hid (H2.out.after hb1)
            replace HB0 := Lib.hid (HB0.out.trans (hb1.mono HB0.out.size))
            clear hr hb1 c0 c1 c2 d0 d1 d2 hv'
            obtain ⟨c0, c1, c2⟩ := BX.out.cells3
            obtain ⟨d0, d1, d2⟩ := BY.out.cells3
            go_wp2_with fail
            refine (order_c w1 _ _ false false a b c d H1.out H2.out (by omega) (by omega) (by omega) (by omega)).mono ?_
            rw [HOO.out]
            rintro e w2 ⟨rfl, hb2⟩
            replace BX := Lib.hid (BX.out.after hb2)
            replace BY := Lib.hid (BY.out.after hb2)
            replace BR := Lib.hid (BR.out.after hb2)
            replace H1 := Lib.hid (H1.out.after hb2)
            replace H2 := Lib.hid (H2.out.after hb2)
            replace HB0 := Lib.hid (HB0.out.trans (hb2.mono HB0.out.size))
            clear hb2 c0 c1 c2 d0 d1 d2
            obtain ⟨c0, c1, c2⟩ := BX.out.cells3
            obtain ⟨d0, d1, d2⟩ := BY.out.cells3
            go_wp2_with fail
            refine (unit_c _).mono ?_
            rintro e wc ⟨v3, rfl, hv3, hb3⟩
            obtain ⟨y4, z4, rfl, _, _⟩ := hv3.shape
            have HI2 := Lib.hid hv3
            have HBd := Lib.hid (HB0.out.trans (hb3.mono HB0.out.size))
            have BRd := Lib.hid (BR.out.after hb3)
            clear hv3 hb3 c0 c1 c2 d0 d1 d2
            obtain ⟨r0, r1, r2⟩ := BRd.out.cells3
            have f0 := BRd.out.frozen 0
            have f1 := BRd.out.frozen 1
            have f2 := BRd.out.frozen 2
            have hltr := BRd.out.lt
            go_wp2_with fail
            obtain ⟨e0, e1, e2⟩ := (end_box BRd.out (y0 := .bool false) (y1 := .slice none 0 0) (y2 := .slice y4 (limbs 1).length z4)).cells3
            refine bodyPost_ret (v := .tuple #[.agg #[.bool false, .slice none 0 0, .slice y4 (limbs 1).length z4], .int .i64 0]) (by simp [results, Try.results39, go_sem, e0, e1, e2]) rfl ?_
            exact ⟨_, rfl, by rw [show fr false 0 1 = ⟨false, [], limbs 1⟩ from by simp [fr, limbs_zero]]; exact IsF.result BRd.out (fun _ h => by cases h) (fun _ h => by cases h) (Sl.nil _) HI2.out, ((HBd.out.setCell (p := ⟨w.heap.size + 2, 0, none⟩) (by simp) _).setCell (p := ⟨w.heap.size + 2, 1, none⟩) (by simp) _).setCell (p := ⟨w.heap.size + 2, 2, none⟩) (by simp) _⟩
          · rw [if_neg (by rintro (h | h); cases h; omega)]
            have hle := ord_pos HORD.out
            have hc : 0 < c := by
              rcases Nat.eq_zero_or_pos c with h1 | h1
              · rw [h1, Nat.zero_mul] at hle
                have := Nat.mul_pos h0 hd
                omega
              · exact h1
            have hz := limbs_len_pos h0
            obtain ⟨p, hp⟩ : ∃ p, simpN a b c d = p := ⟨_, rfl⟩
            have HP := Lib.hid hp
            have HLE := Lib.hid hle
            rw [hp]
            clear hp hle
            obtain ⟨c0, c1, c2⟩ := BX.out.cells3
            obtain ⟨d0, d1, d2⟩ := BY.out.cells3
            go_enter Try.func39, Try.ntmps39
            go_upto_region 1 with fail
            rw [← hW]
            clear hW
            go_wp2_with fail
            refine (both_c _ _ _ _ _ H1.out H2.out).mono ?_
            intro e w1 hr
            obtain ⟨rfl, hb1⟩ := hr.yes hv'.out
            replace BX := Lib.hid (BX.out.after hb1)
            replace BY := Lib.hid (BY.out.after hb1)
            replace BR := Lib.hid (BR.out.after hb1)
            replace H1 := Lib.hid (H1.out.after hb1)
            replace H2 := Lib.hid (H2.out.after hb1)
            replace HB0 := Lib.hid (HB0.out.trans (hb1.mono HB0.out.size))
            clear hr hb1 c0 c1 c2 d0 d1 d2 hv'
            obtain ⟨c0, c1, c2⟩ := BX.out.cells3
            obtain ⟨d0, d1, d2⟩ := BY.out.cells3
            go_wp2_with fail
            refine (order_c w1 _ _ false false a b c d H1.out H2.out (by omega) (by omega) (by omega) (by omega)).mono ?_
            rw [HOO.out]
            rintro e w2 ⟨rfl, hb2⟩
            replace BX := Lib.hid (BX.out.after hb2)
            replace BY := Lib.hid (BY.out.after hb2)
            replace BR := Lib.hid (BR.out.after hb2)
            replace H1 := Lib.hid (H1.out.after hb2)
            replace H2 := Lib.hid (H2.out.after hb2)
            replace HB0 := Lib.hid (HB0.out.trans (hb2.mono HB0.out.size))
            clear hb2 c0 c1 c2 d0 d1 d2
            obtain ⟨c0, c1, c2⟩ := BX.out.cells3
            obtain ⟨d0, d1, d2⟩ := BY.out.cells3
            go_wp2_with fail
            refine (simplest_n _ _ _ false false a b c d H1.out H2.out h0 hb hc hd HLE.out la lb lc ld).mono ?_
            rw [HP.out]
            rintro e wc ⟨v3, rfl, hv3, hb3⟩
            obtain ⟨vx, vy, rfl, i1, i2⟩ := hv3; obtain ⟨y4, z4, rfl, _, _⟩ := i1.shape; obtain ⟨y5, z5, rfl, _, _⟩ := i2.shape; have hv3 := IsF.at_ i1 i2; clear i1 i2
            obtain ⟨_, i1, i2⟩ := hv3.parts
            have HI1 := Lib.hid i1
            have HI2 := Lib.hid i2
            have HBd := Lib.hid (HB0.out.trans (hb3.mono HB0.out.size))
            have BRd := Lib.hid (BR.out.after hb3)
            clear hv3 hb3 i1 i2 c0 c1 c2 d0 d1 d2
            obtain ⟨r0, r1, r2⟩ := BRd.out.cells3
            have f0 := BRd.out.frozen 0
            have f1 := BRd.out.frozen 1
            have f2 := BRd.out.frozen 2
            have hltr := BRd.out.lt
            go_wp2_with fail
            obtain ⟨e0, e1, e2⟩ := (end_box BRd.out (y0 := .bool (fr false p.1 p.2).neg) (y1 := .slice y4 (fr false p.1 p.2).num.length z4) (y2 := .slice y5 (fr false p.1 p.2).den.length z5)).cells3
            refine bodyPost_ret (v := .tuple #[.agg #[.bool (fr false p.1 p.2).neg, .slice y4 (fr false p.1 p.2).num.length z4, .slice y5 (fr false p.1 p.2).den.length z5], .int .i64 0]) (by simp [results, Try.results39, go_sem, e0, e1, e2]) rfl ?_
            exact ⟨_, rfl, IsF.result BRd.out (fun _ h => by cases h) (fun _ h => by cases h) HI1.out HI2.out, ((HBd.out.setCell (p := ⟨w.heap.size + 2, 0, none⟩) (by simp) _).setCell (p := ⟨w.heap.size + 2, 1, none⟩) (by simp) _).setCell (p := ⟨w.heap.size + 2, 2, none⟩) (by simp) _⟩
  · have HV := Lib.hid hv
    have hsp := Lib.hid (simplestF_no hv)
    clear hv h1 h2 h3 h4
    obtain ⟨c0, c1, c2⟩ := BX.out.cells3
    obtain ⟨d0, d1, d2⟩ := BY.out.cells3
    rw [hsp.out]
    go_enter Try.func39, Try.ntmps39
    go_upto_region 1 with fail
    rw [← hW]
    clear hW
    go_wp2_with fail
    refine (both_c _ _ _ _ _ H1.out H2.out).mono ?_
    intro e w1 hr
    obtain ⟨rfl, hb1⟩ := hr.no HV.out
    replace BR := Lib.hid (BR.out.after hb1)
    replace HB0 := Lib.hid (HB0.out.trans (hb1.mono HB0.out.size))
    clear hr hb1 c0 c1 c2 d0 d1 d2
    obtain ⟨r0, r1, r2⟩ := BR.out.cells3
    have f0 := BR.out.frozen 0
    have f1 := BR.out.frozen 1
    have f2 := BR.out.frozen 2
    have hltr := BR.out.lt
    go_wp2_with fail
    obtain ⟨e0, e1, e2⟩ := (end_box BR.out (y0 := .bool false) (y1 := .slice none 0 0) (y2 := .slice none 0 0)).cells3
    refine bodyPost_ret (v := .tuple #[.agg #[.bool false, .slice none 0 0, .slice none 0 0], .int .i64 1]) (by simp [results, Try.results39, go_sem, e0, e1, e2]) rfl ?_
    exact ⟨_, rfl, IsF.zero _, ((HB0.out.setCell (p := ⟨w.heap.size + 2, 0, none⟩) (by simp) _).setCell (p := ⟨w.heap.size + 2, 1, none⟩) (by simp) _).setCell (p := ⟨w.heap.size + 2, 2, none⟩) (by simp) _⟩
end Go.Proofs.Ytaojdlcailpheaa

namespace Go.Proofs.Ytaojdlcailpheaa
open Go.RowKit

theorem dS_one {n : Nat} (h0 : 0 < n) (h : n < 10) : dS n = [UInt8.ofNat (48 + n)] := by
  rw [dS_pos h0, revd_pos h0, show n / 10 = 0 by omega, revd_zero, show n % 10 = n by omega]
  rfl
theorem text_one {s : Bool} {a b : Nat} (h : Ok s a b) (a0 : 0 < a) (a1 : a < 10) (b0 : 0 < b) (b1 : b < 10) : textX (fr s a b) = ⟨((if s = true then [45] else []) ++ [UInt8.ofNat (48 + a), 47, UInt8.ofNat (48 + b)]).toArray⟩ := by
  rw [textX_fr h]
  unfold textL
  rw [dS_one a0 a1, dS_one b0 b1]
  rfl
theorem okS {s : Bool} {n d : Nat} (hn : n < 4294967296) (hd : d < 4294967296) (h0 : 0 < d) (hg : Nat.gcd n d = 1) (hs : n = 0 → s = false) : Ok s n d := by
  have h := small_ok hn hd h0 hg
  exact ⟨h.n32, h.d32, h.pos, h.gcd, hs⟩
theorem made_to {s : Bool} {n d a b : Nat} (h1 : n / Nat.gcd n d = a) (h2 : d / Nat.gcd n d = b) (h : Ok (s && decide (0 < a)) a b) : made s n d = (fr (s && decide (0 < a)) a b, 0) := by
  unfold made
  rw [h1, h2, if_neg (by have := h.n32; have := h.d32; omega)]
theorem v12 : Ok false 1 2 := okS (by omega) (by omega) (by omega) (by decide) (by omega)
theorem v13 : Ok false 1 3 := okS (by omega) (by omega) (by omega) (by decide) (by omega)
theorem v56 : Ok false 5 6 := okS (by omega) (by omega) (by omega) (by decide) (by omega)
theorem v16 : Ok false 1 6 := okS (by omega) (by omega) (by omega) (by decide) (by omega)
theorem v16n : Ok true 1 6 := okS (by omega) (by omega) (by omega) (by decide) (by omega)
theorem v32 : Ok false 3 2 := okS (by omega) (by omega) (by omega) (by decide) (by omega)
theorem v32n : Ok true 3 2 := okS (by omega) (by omega) (by omega) (by decide) (by omega)
theorem v21n : Ok true 2 1 := okS (by omega) (by omega) (by omega) (by decide) (by omega)
theorem v34 : Ok false 3 4 := okS (by omega) (by omega) (by omega) (by decide) (by omega)
theorem x_of12 : ofF 1 2 = (fr false 1 2, 0) := ofF_ok (a := 1) (b := 2) rfl rfl v12
theorem x_of26 : ofF 2 6 = (fr false 1 3, 0) := by
  unfold ofF
  rw [if_neg (by decide)]
  exact made_to (s := false) (a := 1) (b := 3) rfl rfl v13
theorem x_add : opF sumN (fr false 1 2) (fr false 1 3) = (fr false 5 6, 0) := by
  rw [opF_fr v12 v13]; unfold sumN; rw [if_pos rfl]
  exact made_to (s := false) (a := 5) (b := 6) rfl rfl v56
theorem x_sub : opF subN (fr false 1 3) (fr false 1 2) = (fr true 1 6, 0) := by
  rw [opF_fr v13 v12]; unfold subN sumN; rw [if_neg (by decide), if_pos (by decide)]
  exact made_to (s := true) (a := 1) (b := 6) rfl rfl v16n
theorem x_mul : opF mulN (fr false 1 2) (fr false 1 3) = (fr false 1 6, 0) := by
  rw [opF_fr v12 v13]; unfold mulN
  exact made_to (s := false) (a := 1) (b := 6) rfl rfl v16
theorem x_div : opF divN (fr false 1 2) (fr false 1 3) = (fr false 3 2, 0) := by
  rw [opF_fr v12 v13]; unfold divN; rw [if_neg (by decide)]
  exact made_to (s := false) (a := 3) (b := 2) rfl rfl v32
theorem x_cmp : cmpF (fr false 1 2) (fr false 1 3) = (1, 0) := by
  rw [cmpF_yes ⟨validF_fr.2 v12, validF_fr.2 v13⟩]
  simp only [fr, val_limbs]
  rfl
theorem t_12 : textX (fr false 1 2) = ⟨#[49, 47, 50]⟩ := (text_one v12 (by omega) (by omega) (by omega) (by omega)).trans rfl
theorem t_56 : textX (fr false 5 6) = ⟨#[53, 47, 54]⟩ := (text_one v56 (by omega) (by omega) (by omega) (by omega)).trans rfl
theorem t_16n : textX (fr true 1 6) = ⟨#[45, 49, 47, 54]⟩ := (text_one v16n (by omega) (by omega) (by omega) (by omega)).trans rfl
theorem t_16 : textX (fr false 1 6) = ⟨#[49, 47, 54]⟩ := (text_one v16 (by omega) (by omega) (by omega) (by omega)).trans rfl
theorem t_32 : textX (fr false 3 2) = ⟨#[51, 47, 50]⟩ := (text_one v32 (by omega) (by omega) (by omega) (by omega)).trans rfl
theorem t_21n : textX (fr true 2 1) = ⟨#[45, 50, 47, 49]⟩ := (text_one v21n (by omega) (by omega) (by omega) (by omega)).trans rfl
theorem t_34 : textX (fr false 3 4) = ⟨#[51, 47, 52]⟩ := (text_one v34 (by omega) (by omega) (by omega) (by omega)).trans rfl
theorem x_read : readF [45, 51, 47, 50] = (fr true 3 2, 0) := by
  have h : textL true 3 2 = [45, 51, 47, 50] := by
    unfold textL
    rw [dS_one (by omega) (by omega), dS_one (by omega) (by omega)]
    rfl
  rw [← h]
  exact readF_text v32n
theorem x_floor : floorF (fr true 3 2) = (fr true 2 1, 0) := by
  rw [floorF_yes v32n]; rfl
theorem x_int : intF (fr true 2 1) = (-2, 0) := by
  rw [intF_fr v21n, if_neg (by rintro (h | h); exact h rfl; rw [limbs_small (by omega) (by omega)] at h; simp at h), if_pos rfl, if_pos (by omega)]; rfl
theorem x_simp : simplestF (fr false 1 3) (fr false 1 2) = (fr false 1 2, 0) := by
  rw [simplestF_fr v13 v12, if_neg (by decide), if_neg (by decide), if_neg (by rintro (h | h); cases h; omega)]
  have : simpN 1 3 1 2 = (1, 2) := by
    rw [simpN_in (by omega) (by omega) (by decide) (by decide)]
    simp only [show 1 % 2 = 1 from rfl]
    rw [simpN_last (by decide)]
    rfl
  rw [this]
theorem x_near : nearF (fr false 5 6) 4 = (fr false 3 4, 0) := by
  rw [nearF_fr v56, if_neg (by omega), if_neg (by decide)]
  have h1 : cf 5 6 = [0, 1, 5] := by
    rw [cf_more (by omega) (by decide), show 5 % 6 = 5 from rfl, cf_more (by omega) (by decide), show 6 % 5 = 1 from rfl, cf_last (by omega) (by decide)]
  have h2 : nearL (Int.toNat 4) Ch.begun (cf 5 6) = ⟨1, 1, 0, 1⟩ := by
    rw [h1]
    simp [nearL, Ch.begun, Ch.after]
  rw [h2]
  unfold nearC nearK
  rfl
end Go.Proofs.Ytaojdlcailpheaa
