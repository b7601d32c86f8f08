/- Walks of the reference's tails: Exactly, Tail.
   Walks of the reference's tails: above, Critical. -/
import Derived.Test.YtppehiajocgiiaaK18
import Derived.Test.YtppehiajocgiiaaK12
import Derived.Test.YtppehiajocgiiaaK14
set_option linter.unusedVariables false
namespace Go.Proofs.Ytppehiajocgiiaa
open Go.RowKit

theorem checkE_bad {x : F} {g : Bool} (h : rateE x ≠ 0) : checkE x g = rateE x := by unfold checkE; rw [if_neg h]
theorem checkE_false {x : F} (h : rateE x = 0) : checkE x false = 2 := by unfold checkE; rw [if_pos h, if_neg (by simp)]
theorem checkE_true {x : F} (h : rateE x = 0) : checkE x true = 0 := by unfold checkE; rw [if_pos h, if_pos rfl]
/-- The result left as it was made: nothing, with an error. -/
theorem retF_zero {w w1 : World} {R : Nat} {r : Int} {t : TypeId} (hb : Below w.heap.size w w1) (hle : w.heap.size ≤ R) (_ : Box w1 R #[.bool false, .slice none 0 0, .slice none 0 0] t) :
    RetF w (F0, r) (.returned (.tuple #[.agg #[.bool false, .slice none 0 0, .slice none 0 0], .int .i64 r])) (((w1.setCell ⟨R, 0, none⟩ (.bool false)).setCell ⟨R, 1, none⟩ (.slice none 0 0)).setCell ⟨R, 2, none⟩ (.slice none 0 0)) :=
  ⟨_, rfl, IsF.zero _, ((hb.setCell (p := ⟨R, 0, none⟩) hle _).setCell (p := ⟨R, 1, none⟩) hle _).setCell (p := ⟨R, 2, none⟩) hle _⟩
theorem rpower_b (w : World) (v : Value) (b n : Nat) (h : Sl w v (limbs b)) (hn : n ≤ 64) (hb : b ≤ 1000) : Calls Try.prog 46 #[v, .int .i64 (n : Int)] w (RetNat w (b ^ n)) :=
  power_c w v b n h hn (Nat.le_trans (limbs_1000 hb) (by omega))

set_option maxRecDepth 100000 in
set_option maxHeartbeats 4000000 in
theorem rExactly_c (w : World) (n k : Int) (v : Value) (x : F) (h : IsF w v x) : Calls Try.prog 16 #[.int .i64 n, .int .i64 k, v] w (RetF w (exactlyF n k x)) := by
  have HX := h
  obtain ⟨va, vb, rfl, h1, h2⟩ := h
  obtain ⟨p, cp, rfl, _, _⟩ := h1.shape
  obtain ⟨q, cq, rfl, _, _⟩ := h2.shape
  obtain ⟨W0, hW, bx, br, hsz, hb0⟩ := start2 w #[.bool x.neg, .slice p x.num.length cp, .slice q x.den.length cq] #[.bool false, .slice none 0 0, .slice none 0 0] 25
  obtain ⟨c0, c1, c2⟩ := bx.cells3
  have H1 := Lib.hid (HX.after hb0)
  have HB0 := Lib.hid hb0
  have BX := Lib.hid bx
  have BR := Lib.hid br
  clear HX bx br hb0 h1 h2
  obtain ⟨r, hr⟩ : ∃ r, rateE x = r := ⟨_, rfl⟩
  have hrc := rateE_cases x
  rw [hr] at hrc
  have HRR := Lib.hid hr
  by_cases h1 : r = 1
  · subst h1
    have hs : Hid (exactlyF n k x = (F0, 1)) := by
      show _ = _
      unfold exactlyF
      rw [checkE_bad (by rw [hr]; omega), hr, if_neg (by omega)]
    clear hr hrc
    go_enter Try.func16, Try.ntmps16
    go_upto_region 1 with fail
    rw [← hW]
    clear hW
    go_wp2_with fail
    refine (Rate_c _ _ _ H1.out).mono ?_
    rw [HRR.out]
    rintro e w1 ⟨rfl, hb1⟩
    obtain ⟨r0, r1, r2⟩ := (BR.out.after hb1).cells3
    have f0 := (BR.out.after hb1).frozen 0
    have f1 := (BR.out.after hb1).frozen 1
    have f2 := (BR.out.after hb1).frozen 2
    have hlt := (BR.out.after hb1).lt
    have BX1 := Lib.hid (BR.out.after hb1)
    have HB1 := Lib.hid (HB0.out.trans (hb1.mono HB0.out.size))
    clear hb1 c0 c1 c2
    go_wp2_with fail
    obtain ⟨e0, e1, e2⟩ := (end_box BX1.out (y0 := .bool false) (y1 := .slice none 0 0) (y2 := .slice none 0 0)).cells3
    refine bodyPost_ret (v := .tuple #[.agg #[.bool false, .slice none 0 0, .slice none 0 0], .int .i64 1]) (by simp [results, Try.results16, go_sem, e0, e1, e2]) rfl ?_
    rw [hs.out]
    exact retF_zero HB1.out (Nat.le_succ _) BX1.out
  by_cases h0 : r = 0
  · subst h0
    obtain ⟨t, ht⟩ : ∃ t, trialsB n k (n) = t := ⟨_, rfl⟩
    cases t with
    | false =>
      have hs : Hid (exactlyF n k x = (F0, 2)) := by
        show _ = _
        unfold exactlyF
        rw [ht, checkE_false hr, if_neg (by omega)]
      have HT := Lib.hid ht
      clear hr hrc h1 ht
      go_enter Try.func16, Try.ntmps16
      go_upto_region 1 with fail
      rw [← hW]
      clear hW
      go_wp2_with fail
      refine (Rate_c _ _ _ H1.out).mono ?_
      rw [HRR.out]
      rintro e w1 ⟨rfl, hb1⟩
      obtain ⟨c0', c1', c2'⟩ := (BX.out.after hb1).cells3
      have K1 := Lib.hid (H1.out.after hb1)
      have HB1 := Lib.hid hb1
      clear hb1 c0 c1 c2
      go_wp2_with fail
      refine (Rate_c _ _ _ K1.out).mono ?_
      rw [HRR.out]
      rintro e w2 ⟨rfl, hb2⟩
      have hb02 := HB1.out.trans (hb2.mono HB1.out.size)
      obtain ⟨r0, r1, r2⟩ := (BR.out.after hb02).cells3
      have f0 := (BR.out.after hb02).frozen 0
      have f1 := (BR.out.after hb02).frozen 1
      have f2 := (BR.out.after hb02).frozen 2
      have hlt := (BR.out.after hb02).lt
      have BX1 := Lib.hid (BR.out.after hb02)
      have HB2 := Lib.hid (HB0.out.trans (hb02.mono HB0.out.size))
      clear hb02 hb2 c0' c1' c2'
      go_wp2_with fail
      refine (rtrials_c _ _ _ _).mono ?_
      first | rw [HT.out] | rw [← IntWalk.i64_left, HT.out]
      rintro e w' ⟨rfl, rfl⟩
      go_wp2_with fail
      obtain ⟨e0, e1, e2⟩ := (end_box BX1.out (y0 := .bool false) (y1 := .slice none 0 0) (y2 := .slice none 0 0)).cells3
      refine bodyPost_ret (v := .tuple #[.agg #[.bool false, .slice none 0 0, .slice none 0 0], .int .i64 2]) (by simp [results, Try.results16, go_sem, e0, e1, e2]) rfl ?_
      rw [hs.out]
      exact retF_zero HB2.out (Nat.le_succ _) BX1.out
    | true =>
      obtain ⟨a, b, rfl, hab, hb0, hb1, ha', hb'⟩ := rate_fr hr
      have htc := checkE_true hr
      rw [← ht] at htc
      obtain ⟨t1, t2, t3, t4⟩ := trialsB_iff.1 ht
      obtain ⟨N, rfl⟩ : ∃ N : Nat, n = N := ⟨n.toNat, by omega⟩
      obtain ⟨K, rfl⟩ : ∃ K : Nat, k = K := ⟨k.toNat, by omega⟩
      have hsp : exactlyF (N : Int) (K : Int) (fr false a b) = made false (ex a (b - a) N K) (b ^ N) := by
        unfold exactlyF
        rw [if_pos htc, ha', hb']
        simp
      have hN : N ≤ 64 := by omega
      have hK : K ≤ N := by omega
      have HN := Lib.hid hN
      have HK := Lib.hid hK
      have HT := Lib.hid ht
      have le1 : Hid ((limbs (ex a (b - a) N K)).length ≤ 400000) := Nat.le_trans (ex_limbs hab hb1 hN) (by omega)
      have le2 : Hid ((limbs (b ^ N)).length ≤ 400000) := Nat.le_trans (pow_limbs hb1 hN) (by omega)
      have HAB := Lib.hid hab
      have HBB := Lib.hid hb1
      have HBP : Hid (0 < b ^ N) := Nat.pow_pos hb0
      obtain ⟨o, ho⟩ : ∃ o, exactlyF (N : Int) (K : Int) (fr false a b) = o := ⟨_, rfl⟩
      rw [ho] at hsp
      have HO := Lib.hid ho
      have HM := Lib.hid hsp.symm
      clear hr hrc htc ha' hb' t1 t2 t3 t4 hab hb1 hb0 h1 ht ho hsp
      go_enter Try.func16, Try.ntmps16
      go_upto_region 1 with fail
      rw [← hW]
      clear hW
      go_wp2_with fail
      refine (Rate_c _ _ _ H1.out).mono ?_
      rw [HRR.out]
      rintro e w1 ⟨rfl, hb1⟩
      obtain ⟨c0', c1', c2'⟩ := (BX.out.after hb1).cells3
      have K1 := Lib.hid (H1.out.after hb1)
      have HB1 := Lib.hid hb1
      clear hb1 c0 c1 c2
      go_wp2_with fail
      refine (Rate_c _ _ _ K1.out).mono ?_
      rw [HRR.out]
      rintro e w2 ⟨rfl, hb2⟩
      have hb02 := HB1.out.trans (hb2.mono HB1.out.size)
      obtain ⟨d0, d1, d2⟩ := (BX.out.after hb02).cells3
      have H2 := Lib.hid (H1.out.after hb02)
      have HD : Hid (Sl w2 (.slice q (fr false a b).den.length cq) (limbs b)) := by
        obtain ⟨va, vb, e, h1, h2⟩ := H2.out
        obtain ⟨_, e2⟩ : .slice p (fr false a b).num.length cp = va ∧ .slice q (fr false a b).den.length cq = vb := by simpa using e
        rw [e2]; exact h2
      have mkS : Hid (∀ w', Below w2.heap.size w2 w' → w'.cell? ⟨w.heap.size, 0, none⟩ = some (.bool (fr false a b).neg) ∧ w'.cell? ⟨w.heap.size, 1, none⟩ = some (.slice p (fr false a b).num.length cp) ∧ w'.cell? ⟨w.heap.size, 2, none⟩ = some (.slice q (fr false a b).den.length cq)) :=
        fun w' hb => ⟨keep_cell hb d0, keep_cell hb d1, keep_cell hb d2⟩
      have BX1 := Lib.hid (BR.out.after hb02)
      have HB2 := Lib.hid (HB0.out.trans (hb02.mono HB0.out.size))
      clear hb02 hb2 c0' c1' c2' d0 d1 d2
      have d0 := (mkS.out w2 (Below.refl _ _)).1
      have d1 := (mkS.out w2 (Below.refl _ _)).2.1
      have d2 := (mkS.out w2 (Below.refl _ _)).2.2
      go_wp2_with fail
      refine (rtrials_c _ _ _ _).mono ?_
      rw [HT.out]
      rintro e w' ⟨rfl, hw⟩
      obtain rfl := hw.symm
      clear d0 d1 d2
      go_upto_region 2 with fail
      go_region_held3 (fun w' => w'.cell? ⟨w.heap.size, 0, none⟩ = some (.bool (fr false a b).neg) ∧ w'.cell? ⟨w.heap.size, 1, none⟩ = some (.slice p (fr false a b).num.length cp) ∧ w'.cell? ⟨w.heap.size, 2, none⟩ = some (.slice q (fr false a b).den.length cq))
        (first | (refine mkS.out _ ?_; (repeat (first | with_reducible exact hk5 | with_reducible exact hk4 | with_reducible exact hk3 | with_reducible exact Below.refl _ _ | with_reducible refine below_dr ?_)); done) | (with_reducible exact keep3z (by omega) (mkS.out _ hk5)))
        (first
         | (go_at_call 45; refine (numerator_c _ _ N K a b ?_ HK.out HN.out HAB.out HBB.out).mono ?_; exact H2.out.after (below_dr (Below.refl _ w2)); rintro e w3 ⟨v3, rfl, hv3, hb3⟩; obtain ⟨p3, cp3, rfl, _, _⟩ := hv3.shape; have hk3 := below_of_drew hb3)
         | (go_at_call 46; refine (rpower_b _ _ b N ?_ HN.out HBB.out).mono ?_; exact HD.out.after hk3; rintro e w4 ⟨v4, rfl, hv4, hb4⟩; obtain ⟨p4, cp4, rfl, _, _⟩ := hv4.shape; have hk4 := hk3.trans (hb4.mono hk3.size))
         | (go_at_call 44; refine (Made_c _ _ _ (ex a (b - a) N K) (b ^ N) false ?_ hv4 HBP.out le1.out le2.out).mono ?_; exact hv3.after hb4; rw [HM.out]; rintro e w5 ⟨v5, rfl, hv5, hb5⟩; have hk5 := hk4.trans (hb5.mono hk4.size); obtain ⟨vx, vy, rfl, h5, h6⟩ := hv5; obtain ⟨p6, cp6, rfl, _, _⟩ := h5.shape; obtain ⟨q6, cq6, rfl, _, _⟩ := h6.shape; have HS5 := Lib.hid h5; have HS6 := Lib.hid h6; have BR6 := BX1.out.after hk5; obtain ⟨z0, z1, z2⟩ := BR6.cells3; have f0 := BR6.frozen 0; have f1 := BR6.frozen 1; have f2 := BR6.frozen 2; clear h5 h6 hb5))
      have HK6 := Lib.hid (HB2.out.trans (hk5.mono HB2.out.size))
      have HR6 := Lib.hid BR6
      clear hk3 hk4 hk5 BR6 mkS hb3 hb4 hv3 hv4
      go_wp2_with fail
      refine bodyPost_ret (v := .tuple #[.agg #[.bool o.1.neg, .slice p6 o.1.num.length cp6, .slice q6 o.1.den.length cq6], .int .i64 o.2]) (by simp [results, Try.results16, go_sem, z0, z1, z2]) rfl ?_
      rw [HO.out]
      exact ⟨_, rfl, IsF.result HR6.out (fun _ h => by cases h) (fun _ h => by cases h) HS5.out HS6.out, ((HK6.out.setCell (p := ⟨w.heap.size + 1, 0, none⟩) (by simp) _).setCell (p := ⟨w.heap.size + 1, 1, none⟩) (by simp) _).setCell (p := ⟨w.heap.size + 1, 2, none⟩) (by simp) _⟩
  · obtain rfl : r = 2 := by omega
    have hs : Hid (exactlyF n k x = (F0, 2)) := by
      show _ = _
      unfold exactlyF
      rw [checkE_bad (by rw [hr]; omega), hr, if_neg (by omega)]
    clear hr hrc h0 h1
    go_enter Try.func16, Try.ntmps16
    go_upto_region 1 with fail
    rw [← hW]
    clear hW
    go_wp2_with fail
    refine (Rate_c _ _ _ H1.out).mono ?_
    rw [HRR.out]
    rintro e w1 ⟨rfl, hb1⟩
    obtain ⟨c0', c1', c2'⟩ := (BX.out.after hb1).cells3
    have K1 := Lib.hid (H1.out.after hb1)
    have HB1 := Lib.hid hb1
    clear hb1 c0 c1 c2
    go_wp2_with fail
    refine (Rate_c _ _ _ K1.out).mono ?_
    rw [HRR.out]
    rintro e w2 ⟨rfl, hb2⟩
    have hb02 := HB1.out.trans (hb2.mono HB1.out.size)
    obtain ⟨r0, r1, r2⟩ := (BR.out.after hb02).cells3
    have f0 := (BR.out.after hb02).frozen 0
    have f1 := (BR.out.after hb02).frozen 1
    have f2 := (BR.out.after hb02).frozen 2
    have hlt := (BR.out.after hb02).lt
    have BX1 := Lib.hid (BR.out.after hb02)
    have HB2 := Lib.hid (HB0.out.trans (hb02.mono HB0.out.size))
    clear hb02 hb2 c0' c1' c2'
    go_wp2_with fail
    obtain ⟨e0, e1, e2⟩ := (end_box BX1.out (y0 := .bool false) (y1 := .slice none 0 0) (y2 := .slice none 0 0)).cells3
    refine bodyPost_ret (v := .tuple #[.agg #[.bool false, .slice none 0 0, .slice none 0 0], .int .i64 2]) (by simp [results, Try.results16, go_sem, e0, e1, e2]) rfl ?_
    rw [hs.out]
    exact retF_zero HB2.out (Nat.le_succ _) BX1.out

set_option maxRecDepth 100000 in
set_option maxHeartbeats 4000000 in
theorem rTail_c (w : World) (n k : Int) (v : Value) (x : F) (h : IsF w v x) : Calls Try.prog 19 #[.int .i64 n, .int .i64 k, v] w (RetF w (tailF n k x)) := by
  have HX := h
  obtain ⟨va, vb, rfl, h1, h2⟩ := h
  obtain ⟨p, cp, rfl, _, _⟩ := h1.shape
  obtain ⟨q, cq, rfl, _, _⟩ := h2.shape
  obtain ⟨W0, hW, bx, br, hsz, hb0⟩ := start2 w #[.bool x.neg, .slice p x.num.length cp, .slice q x.den.length cq] #[.bool false, .slice none 0 0, .slice none 0 0] 25
  obtain ⟨c0, c1, c2⟩ := bx.cells3
  have H1 := Lib.hid (HX.after hb0)
  have HB0 := Lib.hid hb0
  have BX := Lib.hid bx
  have BR := Lib.hid br
  clear HX bx br hb0 h1 h2
  obtain ⟨r, hr⟩ : ∃ r, rateE x = r := ⟨_, rfl⟩
  have hrc := rateE_cases x
  rw [hr] at hrc
  have HRR := Lib.hid hr
  by_cases h1 : r = 1
  · subst h1
    have hs : Hid (tailF n k x = (F0, 1)) := by
      show _ = _
      unfold tailF
      rw [checkE_bad (by rw [hr]; omega), hr, if_neg (by omega)]
    clear hr hrc
    go_enter Try.func19, Try.ntmps19
    go_upto_region 1 with fail
    rw [← hW]
    clear hW
    go_wp2_with fail
    refine (Rate_c _ _ _ H1.out).mono ?_
    rw [HRR.out]
    rintro e w1 ⟨rfl, hb1⟩
    obtain ⟨r0, r1, r2⟩ := (BR.out.after hb1).cells3
    have f0 := (BR.out.after hb1).frozen 0
    have f1 := (BR.out.after hb1).frozen 1
    have f2 := (BR.out.after hb1).frozen 2
    have hlt := (BR.out.after hb1).lt
    have BX1 := Lib.hid (BR.out.after hb1)
    have HB1 := Lib.hid (HB0.out.trans (hb1.mono HB0.out.size))
    clear hb1 c0 c1 c2
    go_wp2_with fail
    obtain ⟨e0, e1, e2⟩ := (end_box BX1.out (y0 := .bool false) (y1 := .slice none 0 0) (y2 := .slice none 0 0)).cells3
    refine bodyPost_ret (v := .tuple #[.agg #[.bool false, .slice none 0 0, .slice none 0 0], .int .i64 1]) (by simp [results, Try.results19, go_sem, e0, e1, e2]) rfl ?_
    rw [hs.out]
    exact retF_zero HB1.out (Nat.le_succ _) BX1.out
  by_cases h0 : r = 0
  · subst h0
    obtain ⟨t, ht⟩ : ∃ t, trialsB n k (IntKind.i64.wrap (n + 1)) = t := ⟨_, rfl⟩
    cases t with
    | false =>
      have hs : Hid (tailF n k x = (F0, 2)) := by
        show _ = _
        unfold tailF
        rw [ht, checkE_false hr, if_neg (by omega)]
      have HT := Lib.hid ht
      clear hr hrc h1 ht
      go_enter Try.func19, Try.ntmps19
      go_upto_region 1 with fail
      rw [← hW]
      clear hW
      go_wp2_with fail
      refine (Rate_c _ _ _ H1.out).mono ?_
      rw [HRR.out]
      rintro e w1 ⟨rfl, hb1⟩
      obtain ⟨c0', c1', c2'⟩ := (BX.out.after hb1).cells3
      have K1 := Lib.hid (H1.out.after hb1)
      have HB1 := Lib.hid hb1
      clear hb1 c0 c1 c2
      go_wp2_with fail
      refine (Rate_c _ _ _ K1.out).mono ?_
      rw [HRR.out]
      rintro e w2 ⟨rfl, hb2⟩
      have hb02 := HB1.out.trans (hb2.mono HB1.out.size)
      obtain ⟨r0, r1, r2⟩ := (BR.out.after hb02).cells3
      have f0 := (BR.out.after hb02).frozen 0
      have f1 := (BR.out.after hb02).frozen 1
      have f2 := (BR.out.after hb02).frozen 2
      have hlt := (BR.out.after hb02).lt
      have BX1 := Lib.hid (BR.out.after hb02)
      have HB2 := Lib.hid (HB0.out.trans (hb02.mono HB0.out.size))
      clear hb02 hb2 c0' c1' c2'
      go_wp2_with fail
      refine (rtrials_c _ _ _ _).mono ?_
      first | rw [HT.out] | rw [← IntWalk.i64_left, HT.out]
      rintro e w' ⟨rfl, rfl⟩
      go_wp2_with fail
      obtain ⟨e0, e1, e2⟩ := (end_box BX1.out (y0 := .bool false) (y1 := .slice none 0 0) (y2 := .slice none 0 0)).cells3
      refine bodyPost_ret (v := .tuple #[.agg #[.bool false, .slice none 0 0, .slice none 0 0], .int .i64 2]) (by simp [results, Try.results19, go_sem, e0, e1, e2]) rfl ?_
      rw [hs.out]
      exact retF_zero HB2.out (Nat.le_succ _) BX1.out
    | true =>
      obtain ⟨a, b, rfl, hab, hb0, hb1, ha', hb'⟩ := rate_fr hr
      have htc := checkE_true hr
      rw [← ht] at htc
      obtain ⟨t1, t2, t3, t4⟩ := trialsB_iff.1 ht
      obtain ⟨N, rfl⟩ : ∃ N : Nat, n = N := ⟨n.toNat, by omega⟩
      obtain ⟨K, rfl⟩ : ∃ K : Nat, k = K := ⟨k.toNat, by omega⟩
      have hsp : tailF (N : Int) (K : Int) (fr false a b) = made false (tl a (b - a) N K) (b ^ N) := by
        unfold tailF
        rw [if_pos htc, ha', hb']
        simp
      have hN : N ≤ 64 := by omega
      have hw1 : IntKind.i64.wrap ((N : Int) + 1) = (N : Int) + 1 := wrap_in (by omega) (by omega)
      rw [hw1] at t4 ht
      have hK : K ≤ N + 1 := by omega
      have HN := Lib.hid hN
      have HK := Lib.hid hK
      have HT := Lib.hid ht
      have le1 : Hid ((limbs (tl a (b - a) N K)).length ≤ 400000) := Nat.le_trans (tl_limbs hab hb1 hN) (by omega)
      have le2 : Hid ((limbs (b ^ N)).length ≤ 400000) := Nat.le_trans (pow_limbs hb1 hN) (by omega)
      have HAB := Lib.hid hab
      have HBB := Lib.hid hb1
      have HBP : Hid (0 < b ^ N) := Nat.pow_pos hb0
      obtain ⟨o, ho⟩ : ∃ o, tailF (N : Int) (K : Int) (fr false a b) = o := ⟨_, rfl⟩
      rw [ho] at hsp
      have HO := Lib.hid ho
      have HM := Lib.hid hsp.symm
      clear hr hrc htc ha' hb' t1 t2 t3 t4 hab hb1 hb0 h1 ht ho hsp
      go_enter Try.func19, Try.ntmps19
      go_upto_region 1 with fail
      rw [← hW]
      clear hW
      go_wp2_with fail
      refine (Rate_c _ _ _ H1.out).mono ?_
      rw [HRR.out]
      rintro e w1 ⟨rfl, hb1⟩
      obtain ⟨c0', c1', c2'⟩ := (BX.out.after hb1).cells3
      have K1 := Lib.hid (H1.out.after hb1)
      have HB1 := Lib.hid hb1
      clear hb1 c0 c1 c2
      go_wp2_with fail
      refine (Rate_c _ _ _ K1.out).mono ?_
      rw [HRR.out]
      rintro e w2 ⟨rfl, hb2⟩
      have hb02 := HB1.out.trans (hb2.mono HB1.out.size)
      obtain ⟨d0, d1, d2⟩ := (BX.out.after hb02).cells3
      have H2 := Lib.hid (H1.out.after hb02)
      have HD : Hid (Sl w2 (.slice q (fr false a b).den.length cq) (limbs b)) := by
        obtain ⟨va, vb, e, h1, h2⟩ := H2.out
        obtain ⟨_, e2⟩ : .slice p (fr false a b).num.length cp = va ∧ .slice q (fr false a b).den.length cq = vb := by simpa using e
        rw [e2]; exact h2
      have mkS : Hid (∀ w', Below w2.heap.size w2 w' → w'.cell? ⟨w.heap.size, 0, none⟩ = some (.bool (fr false a b).neg) ∧ w'.cell? ⟨w.heap.size, 1, none⟩ = some (.slice p (fr false a b).num.length cp) ∧ w'.cell? ⟨w.heap.size, 2, none⟩ = some (.slice q (fr false a b).den.length cq)) :=
        fun w' hb => ⟨keep_cell hb d0, keep_cell hb d1, keep_cell hb d2⟩
      have BX1 := Lib.hid (BR.out.after hb02)
      have HB2 := Lib.hid (HB0.out.trans (hb02.mono HB0.out.size))
      clear hb02 hb2 c0' c1' c2' d0 d1 d2
      have d0 := (mkS.out w2 (Below.refl _ _)).1
      have d1 := (mkS.out w2 (Below.refl _ _)).2.1
      have d2 := (mkS.out w2 (Below.refl _ _)).2.2
      go_wp2_with fail
      refine (rtrials_c _ _ _ _).mono ?_
      rw [HT.out]
      rintro e w' ⟨rfl, hw⟩
      obtain rfl := hw.symm
      clear d0 d1 d2
      go_upto_region 2 with fail
      go_region_held3 (fun w' => w'.cell? ⟨w.heap.size, 0, none⟩ = some (.bool (fr false a b).neg) ∧ w'.cell? ⟨w.heap.size, 1, none⟩ = some (.slice p (fr false a b).num.length cp) ∧ w'.cell? ⟨w.heap.size, 2, none⟩ = some (.slice q (fr false a b).den.length cq))
        (first | (refine mkS.out _ ?_; (repeat (first | with_reducible exact hk5 | with_reducible exact hk4 | with_reducible exact hk3 | with_reducible exact Below.refl _ _ | with_reducible refine below_dr ?_)); done) | (with_reducible exact keep3z (by omega) (mkS.out _ hk5)))
        (first
         | (go_at_call 48; refine (rtail_c _ _ N K a b ?_ HK.out HN.out HAB.out HBB.out).mono ?_; exact H2.out.after (below_dr (Below.refl _ w2)); rintro e w3 ⟨v3, rfl, hv3, hb3⟩; obtain ⟨p3, cp3, rfl, _, _⟩ := hv3.shape; have hk3 := below_of_drew hb3)
         | (go_at_call 46; refine (rpower_b _ _ b N ?_ HN.out HBB.out).mono ?_; exact HD.out.after hk3; rintro e w4 ⟨v4, rfl, hv4, hb4⟩; obtain ⟨p4, cp4, rfl, _, _⟩ := hv4.shape; have hk4 := hk3.trans (hb4.mono hk3.size))
         | (go_at_call 44; refine (Made_c _ _ _ (tl a (b - a) N K) (b ^ N) false ?_ hv4 HBP.out le1.out le2.out).mono ?_; exact hv3.after hb4; rw [HM.out]; rintro e w5 ⟨v5, rfl, hv5, hb5⟩; have hk5 := hk4.trans (hb5.mono hk4.size); obtain ⟨vx, vy, rfl, h5, h6⟩ := hv5; obtain ⟨p6, cp6, rfl, _, _⟩ := h5.shape; obtain ⟨q6, cq6, rfl, _, _⟩ := h6.shape; have HS5 := Lib.hid h5; have HS6 := Lib.hid h6; have BR6 := BX1.out.after hk5; obtain ⟨z0, z1, z2⟩ := BR6.cells3; have f0 := BR6.frozen 0; have f1 := BR6.frozen 1; have f2 := BR6.frozen 2; clear h5 h6 hb5))
      have HK6 := Lib.hid (HB2.out.trans (hk5.mono HB2.out.size))
      have HR6 := Lib.hid BR6
      clear hk3 hk4 hk5 BR6 mkS hb3 hb4 hv3 hv4
      go_wp2_with fail
      refine bodyPost_ret (v := .tuple #[.agg #[.bool o.1.neg, .slice p6 o.1.num.length cp6, .slice q6 o.1.den.length cq6], .int .i64 o.2]) (by simp [results, Try.results19, go_sem, z0, z1, z2]) rfl ?_
      rw [HO.out]
      exact ⟨_, rfl, IsF.result HR6.out (fun _ h => by cases h) (fun _ h => by cases h) HS5.out HS6.out, ((HK6.out.setCell (p := ⟨w.heap.size + 1, 0, none⟩) (by simp) _).setCell (p := ⟨w.heap.size + 1, 1, none⟩) (by simp) _).setCell (p := ⟨w.heap.size + 1, 2, none⟩) (by simp) _⟩
  · obtain rfl : r = 2 := by omega
    have hs : Hid (tailF n k x = (F0, 2)) := by
      show _ = _
      unfold tailF
      rw [checkE_bad (by rw [hr]; omega), hr, if_neg (by omega)]
    clear hr hrc h0 h1
    go_enter Try.func19, Try.ntmps19
    go_upto_region 1 with fail
    rw [← hW]
    clear hW
    go_wp2_with fail
    refine (Rate_c _ _ _ H1.out).mono ?_
    rw [HRR.out]
    rintro e w1 ⟨rfl, hb1⟩
    obtain ⟨c0', c1', c2'⟩ := (BX.out.after hb1).cells3
    have K1 := Lib.hid (H1.out.after hb1)
    have HB1 := Lib.hid hb1
    clear hb1 c0 c1 c2
    go_wp2_with fail
    refine (Rate_c _ _ _ K1.out).mono ?_
    rw [HRR.out]
    rintro e w2 ⟨rfl, hb2⟩
    have hb02 := HB1.out.trans (hb2.mono HB1.out.size)
    obtain ⟨r0, r1, r2⟩ := (BR.out.after hb02).cells3
    have f0 := (BR.out.after hb02).frozen 0
    have f1 := (BR.out.after hb02).frozen 1
    have f2 := (BR.out.after hb02).frozen 2
    have hlt := (BR.out.after hb02).lt
    have BX1 := Lib.hid (BR.out.after hb02)
    have HB2 := Lib.hid (HB0.out.trans (hb02.mono HB0.out.size))
    clear hb02 hb2 c0' c1' c2'
    go_wp2_with fail
    obtain ⟨e0, e1, e2⟩ := (end_box BX1.out (y0 := .bool false) (y1 := .slice none 0 0) (y2 := .slice none 0 0)).cells3
    refine bodyPost_ret (v := .tuple #[.agg #[.bool false, .slice none 0 0, .slice none 0 0], .int .i64 2]) (by simp [results, Try.results19, go_sem, e0, e1, e2]) rfl ?_
    rw [hs.out]
    exact retF_zero HB2.out (Nat.le_succ _) BX1.out

end Go.Proofs.Ytppehiajocgiiaa

namespace Go.Proofs.Ytppehiajocgiiaa
open Go.RowKit

set_option maxRecDepth 100000 in
set_option maxHeartbeats 4000000 in
theorem rabove_c (w : World) (v u : Value) (n k a b x y : Nat) (h : IsF w v (fr false a b)) (g : IsF w u (fr false x y)) (hk : k ≤ n + 1) (hn : n ≤ 64) (hab : a ≤ b) (hb1 : b ≤ 1000) (lx : (limbs x).length ≤ 32) (ly : (limbs y).length ≤ 32) :
    Calls Try.prog 53 #[.int .i64 (n : Int), .int .i64 (k : Int), v, u] w (RetC w (Abv n a (b - a) x y k)) := by
  have HX := h
  have HG := g
  obtain ⟨va, vb, rfl, h1, h2⟩ := h
  obtain ⟨p, cp, rfl, _, _⟩ := h1.shape
  obtain ⟨q, cq, rfl, _, _⟩ := h2.shape
  obtain ⟨vc, vd, rfl, g1, g2⟩ := g
  obtain ⟨p', cp', rfl, _, _⟩ := g1.shape
  obtain ⟨q', cq', rfl, _, _⟩ := g2.shape
  obtain ⟨W0, hW, bx, br, hsz, hb0⟩ := start2 w #[.bool (fr false a b).neg, .slice p (fr false a b).num.length cp, .slice q (fr false a b).den.length cq] #[.bool (fr false x y).neg, .slice p' (fr false x y).num.length cp', .slice q' (fr false x y).den.length cq'] 25
  obtain ⟨c0, c1, c2⟩ := bx.cells3
  obtain ⟨d0, d1, d2⟩ := br.cells3
  have H1 := Lib.hid (HX.after hb0)
  have HD : Hid (Sl W0 (.slice q (fr false a b).den.length cq) (limbs b)) := h2.after hb0
  have G1 : Hid (Sl W0 (.slice p' (fr false x y).num.length cp') (limbs x)) := g1.after hb0
  have G2 : Hid (Sl W0 (.slice q' (fr false x y).den.length cq') (limbs y)) := g2.after hb0
  have HB0 := Lib.hid hb0
  have mkS : Hid (∀ w', Below W0.heap.size W0 w' → (w'.cell? ⟨w.heap.size, 0, none⟩ = some (.bool (fr false a b).neg) ∧ w'.cell? ⟨w.heap.size, 1, none⟩ = some (.slice p (fr false a b).num.length cp) ∧ w'.cell? ⟨w.heap.size, 2, none⟩ = some (.slice q (fr false a b).den.length cq)) ∧
      w'.cell? ⟨w.heap.size + 1, 1, none⟩ = some (.slice p' (fr false x y).num.length cp') ∧ w'.cell? ⟨w.heap.size + 1, 2, none⟩ = some (.slice q' (fr false x y).den.length cq')) :=
    fun w' hb => ⟨⟨keep_cell hb c0, keep_cell hb c1, keep_cell hb c2⟩, keep_cell hb d1, keep_cell hb d2⟩
  have lt1 : Hid ((limbs (tl a (b - a) n k)).length ≤ 1000000) := Nat.le_trans (tl_limbs hab hb1 hn) (by omega)
  have lt2 : Hid ((limbs (b ^ n)).length ≤ 1000000) := Nat.le_trans (pow_limbs hb1 hn) (by omega)
  have habv : Hid (Abv n a (b - a) x y k ↔ x * b ^ n < tl a (b - a) n k * y) := by
    show _ ↔ _
    unfold Abv
    rw [show a + (b - a) = b by omega, Nat.mul_comm (b ^ n) x]
  clear HX HG bx br hb0 h1 h2 g1 g2 c0 c1 c2 d0 d1 d2
  go_enter Try.func53, Try.ntmps53
  go_upto_region 1 with fail
  rw [← hW]
  clear hW
  go_region_held3 (fun w' => (w'.cell? ⟨w.heap.size, 0, none⟩ = some (.bool (fr false a b).neg) ∧ w'.cell? ⟨w.heap.size, 1, none⟩ = some (.slice p (fr false a b).num.length cp) ∧ w'.cell? ⟨w.heap.size, 2, none⟩ = some (.slice q (fr false a b).den.length cq)) ∧
      w'.cell? ⟨w.heap.size + 1, 1, none⟩ = some (.slice p' (fr false x y).num.length cp') ∧ w'.cell? ⟨w.heap.size + 1, 2, none⟩ = some (.slice q' (fr false x y).den.length cq'))
    (first | (refine mkS.out _ ?_; (repeat (first | with_reducible exact hk5 | with_reducible exact hk4 | with_reducible exact hk3 | with_reducible exact hk2 | with_reducible exact hk1 | with_reducible exact Below.refl _ _ | with_reducible refine below_dr ?_)); done))
    (first
     | (go_at_call 48; refine (rtail_c _ _ n k a b ?_ hk hn hab hb1).mono ?_; exact H1.out.after (below_dr (Below.refl _ W0)); rintro e w1 ⟨v1, rfl, hv1, hb1⟩; obtain ⟨p1, cp1, rfl, _, _⟩ := hv1.shape; have hk1 := below_of_drew hb1)
     | (go_at_call_of 77 p1; refine (rproduct_n _ _ _ (tl a (b - a) n k) y hv1 ?_ lt1.out (by omega)).mono ?_; exact G2.out.after hk1; rintro e w2 ⟨v2, rfl, hv2, hb2⟩; obtain ⟨p2, cp2, rfl, _, _⟩ := hv2.shape; have hk2 := hk1.trans (hb2.mono hk1.size))
     | (go_at_call 46; refine (rpower_b _ _ b n ?_ hn (by assumption)).mono ?_; exact HD.out.after hk2; rintro e w3 ⟨v3, rfl, hv3, hb3⟩; obtain ⟨p3, cp3, rfl, _, _⟩ := hv3.shape; have hk3 := hk2.trans (hb3.mono hk2.size))
     | (go_at_call_of 77 p3; refine (rproduct_n _ _ _ x (b ^ n) ?_ hv3 (by omega) lt2.out).mono ?_; exact G1.out.after hk3; rintro e w4 ⟨v4, rfl, hv4, hb4⟩; obtain ⟨p4, cp4, rfl, _, _⟩ := hv4.shape; have hk4 := hk3.trans (hb4.mono hk3.size))
     | (go_at_call 39; refine (Compare_c _ _ _ (limbs (tl a (b - a) n k * y)) (limbs (x * b ^ n)) ?_ hv4).mono ?_; exact (hv2.after hb3).after hb4; rintro e w5 ⟨r, rfl, hr, n5, rfl⟩; have hk5 := hk4.trans (below_drewN _ n5 _)))
  have HC := Lib.hid hr.gt
  have HK5 := Lib.hid (HB0.out.trans (hk5.mono HB0.out.size))
  clear hk1 hk2 hk3 hk4 hk5 hv1 hv2 hv3 hv4 hr mkS
  go_wp2_with fail
  go_ret
  exact ⟨decide (0 < r), rfl, by rw [decide_eq_true_iff, HC.out]; exact habv.out.symm, HK5.out⟩
/-- The error that Critical returns where it returns one. -/
def critErr (r s : Int) : Int := if r = 1 ∨ s = 1 then 1 else 2

set_option maxRecDepth 100000 in
set_option maxHeartbeats 8000000 in
theorem rCritical_bad (w : World) (n : Int) (X Y : F) (v u : Value) (h : IsF w v X) (g : IsF w u Y) (r s : Int) (t : Bool) (hr : rateE X = r) (hs : fracE Y = s) (ht : trialsB n 0 0 = t) (hno : ¬ (r = 0 ∧ s = 0 ∧ t = true)) :
    Calls Try.prog 22 #[.int .i64 n, v, u] w fun e w' => e = .returned (.tuple #[.int .i64 0, .int .i64 (critErr r s)]) ∧ Below w.heap.size w w' := by
  have HX := h
  have HG := g
  obtain ⟨va, vb, rfl, h1, h2⟩ := h
  obtain ⟨vc, vd, rfl, g1, g2⟩ := g
  obtain ⟨W0, hW, bx, br, hsz, hb0⟩ := start2 w #[.bool X.neg, va, vb] #[.bool Y.neg, vc, vd] 25
  have H1 := Lib.hid (HX.after hb0)
  have G1 := Lib.hid (HG.after hb0)
  obtain ⟨c0, c1, c2⟩ := bx.cells3
  obtain ⟨d0, d1, d2⟩ := br.cells3
  have mkS : Hid (∀ w', Below W0.heap.size W0 w' → (w'.cell? ⟨w.heap.size, 0, none⟩ = some (.bool X.neg) ∧ w'.cell? ⟨w.heap.size, 1, none⟩ = some va ∧ w'.cell? ⟨w.heap.size, 2, none⟩ = some vb) ∧
      w'.cell? ⟨w.heap.size + 1, 0, none⟩ = some (.bool Y.neg) ∧ w'.cell? ⟨w.heap.size + 1, 1, none⟩ = some vc ∧ w'.cell? ⟨w.heap.size + 1, 2, none⟩ = some vd) :=
    fun w' hb => ⟨⟨keep_cell hb c0, keep_cell hb c1, keep_cell hb c2⟩, keep_cell hb d0, keep_cell hb d1, keep_cell hb d2⟩
  have HB0 := Lib.hid hb0
  have rc := rateE_cases X
  have sc := fracE_cases Y
  rw [hr] at rc
  rw [hs] at sc
  have HR := Lib.hid hr
  have HS := Lib.hid hs
  have HT := Lib.hid ht
  have hk : Hid (Below W0.heap.size W0 W0) := Below.refl _ _
  clear hr hs ht HX HG h1 h2 g1 g2 bx br hb0
  cases t <;> rcases rc with rfl | rfl | rfl <;> rcases sc with rfl | rfl | rfl
  all_goals first
    | exact absurd ⟨rfl, rfl, rfl⟩ hno
    | (clear hno
       go_enter Try.func22, Try.ntmps22
       go_upto_region 1 with fail
       rw [← hW]
       clear hW
       go_wp2_with (first
         | (go_at_call 43; refine (Rate_c _ _ X (H1.out.after hk.out)).mono ?_; rw [HR.out]; rintro e wn ⟨rfl, hbn⟩; replace hk := Lib.hid (hk.out.trans (hbn.mono hk.out.size)); clear c0 c1 c2 d0 d1 d2; obtain ⟨⟨c0, c1, c2⟩, d0, d1, d2⟩ := mkS.out _ hk.out; clear hbn)
         | (go_at_call 52; refine (bound_c _ _ Y (G1.out.after hk.out)).mono ?_; rw [HS.out]; rintro e wn ⟨rfl, hbn⟩; replace hk := Lib.hid (hk.out.trans (hbn.mono hk.out.size)); clear c0 c1 c2 d0 d1 d2; obtain ⟨⟨c0, c1, c2⟩, d0, d1, d2⟩ := mkS.out _ hk.out; clear hbn)
         | (go_at_call 37; refine (rtrials_c _ _ _ _).mono ?_; rw [HT.out]; rintro e wn ⟨rfl, hwn⟩; obtain rfl := hwn.symm))
       go_ret2
       exact ⟨rfl, HB0.out.trans (hk.out.mono HB0.out.size)⟩)
theorem abv_le {n a c x y k : Nat} (h : Abv n a c x y k) : k ≤ n := by
  rcases Nat.lt_or_ge n k with h1 | h1
  · unfold Abv at h; rw [tl_gt h1, Nat.zero_mul] at h; omega
  · exact h1
theorem abv_anti {n a c x y i j : Nat} (h : i ≤ j) (hj : Abv n a c x y j) : Abv n a c x y i :=
  Nat.lt_of_lt_of_le hj (Nat.mul_le_mul_right y (tl_anti' a c n h))
theorem critR_first {n a c x y i : Nat} (h1 : ∀ j, j < i → Abv n a c x y j) (h2 : ¬ Abv n a c x y i) : CritR n a c x y i := by
  cases i with
  | zero => exact .inr ⟨fun j _ hj => h2 (abv_anti (Nat.zero_le _) hj), rfl⟩
  | succ i => exact .inl ⟨i, abv_le (h1 i (by omega)), h1 i (by omega), fun j hj _ hA => h2 (abv_anti hj hA), rfl⟩
theorem critR_uniq {n a c x y r s : Nat} (h1 : CritR n a c x y r) (h2 : CritR n a c x y s) : r = s := by
  rcases h1 with ⟨k, hk, ha, hn, rfl⟩ | ⟨hn, rfl⟩ <;> rcases h2 with ⟨l, hl, hb, hm, rfl⟩ | ⟨hm, rfl⟩
  · rcases Nat.lt_trichotomy k l with h | h | h
    · exact absurd hb (hn l h hl)
    · rw [h]
    · exact absurd ha (hm k h hk)
  · exact absurd ha (hm k hk)
  · exact absurd hb (hn l hl)
  · rfl

set_option maxRecDepth 100000 in
set_option maxHeartbeats 8000000 in
theorem rCritical_good (w : World) (n a b x y : Nat) (v u : Value) (h : IsF w v (fr false a b)) (g : IsF w u (fr false x y)) (hn : n ≤ 64) (hab : a ≤ b) (hb1 : b ≤ 1000) (hok : Ok false x y)
    (hr : rateE (fr false a b) = 0) (hs : fracE (fr false x y) = 0) (ht : trialsB (n : Int) 0 0 = true) :
    Calls Try.prog 22 #[.int .i64 (n : Int), v, u] w fun e w' => ∃ m : Nat, e = .returned (.tuple #[.int .i64 (m : Int), .int .i64 0]) ∧ CritR n a (b - a) x y m ∧ Below w.heap.size w w' := by
  have HX := h
  have HG := g
  obtain ⟨va, vb, rfl, h1, h2⟩ := h
  obtain ⟨vc, vd, rfl, g1, g2⟩ := g
  obtain ⟨W0, hW, bx, br, hsz, hb0⟩ := start2 w #[.bool (fr false a b).neg, va, vb] #[.bool (fr false x y).neg, vc, vd] 25
  have H1 := Lib.hid (HX.after hb0)
  have G1 := Lib.hid (HG.after hb0)
  obtain ⟨c0, c1, c2⟩ := bx.cells3
  obtain ⟨d0, d1, d2⟩ := br.cells3
  have mkS : Hid (∀ w', Below W0.heap.size W0 w' → (w'.cell? ⟨w.heap.size, 0, none⟩ = some (.bool (fr false a b).neg) ∧ w'.cell? ⟨w.heap.size, 1, none⟩ = some va ∧ w'.cell? ⟨w.heap.size, 2, none⟩ = some vb) ∧
      w'.cell? ⟨w.heap.size + 1, 0, none⟩ = some (.bool (fr false x y).neg) ∧ w'.cell? ⟨w.heap.size + 1, 1, none⟩ = some vc ∧ w'.cell? ⟨w.heap.size + 1, 2, none⟩ = some vd) :=
    fun w' hb => ⟨⟨keep_cell hb c0, keep_cell hb c1, keep_cell hb c2⟩, keep_cell hb d0, keep_cell hb d1, keep_cell hb d2⟩
  have HB0 := Lib.hid hb0
  have HR := Lib.hid hr
  have HS := Lib.hid hs
  have HT := Lib.hid ht
  have lx := hok.n32
  have ly := hok.d32
  have hk : Hid (Below W0.heap.size W0 W0) := Below.refl _ _
  clear hr hs ht HX HG h1 h2 g1 g2 bx br hb0
  go_enter Try.func22, Try.ntmps22
  go_upto_region 1 with fail
  rw [← hW]
  clear hW
  go_wp2_with (first
    | (go_at_call 43; refine (Rate_c _ _ (fr false a b) (H1.out.after hk.out)).mono ?_; rw [HR.out]; rintro e wn ⟨rfl, hbn⟩; replace hk := Lib.hid (hk.out.trans (hbn.mono hk.out.size)); clear c0 c1 c2 d0 d1 d2; obtain ⟨⟨c0, c1, c2⟩, d0, d1, d2⟩ := mkS.out _ hk.out; clear hbn)
    | (go_at_call 52; refine (bound_c _ _ (fr false x y) (G1.out.after hk.out)).mono ?_; rw [HS.out]; rintro e wn ⟨rfl, hbn⟩; replace hk := Lib.hid (hk.out.trans (hbn.mono hk.out.size)); clear c0 c1 c2 d0 d1 d2; obtain ⟨⟨c0, c1, c2⟩, d0, d1, d2⟩ := mkS.out _ hk.out; clear hbn)
    | (go_at_call 37; refine (rtrials_c _ _ _ _).mono ?_; rw [HT.out]; rintro e wn ⟨rfl, hwn⟩; obtain rfl := hwn.symm))
  clear c0 c1 c2 d0 d1 d2
  go_loopg [8] (n + 1) (fun g t wx => ∃ i : Nat, i ≤ n + 1 ∧ g = n + 1 - i ∧ t = .int .i64 (i : Int) ∧ Hid (∀ j, j < i → Abv n a (b - a) x y j) ∧ Hid (Below W0.heap.size W0 wx))
  case atStart => exact ⟨0, Nat.zero_le _, rfl, rfl, fun j hj => by omega, hk.out⟩
  case round =>
    obtain ⟨i, hin, rfl, rfl, hall, hkx⟩ := hrel
    clear hk
    obtain ⟨⟨c0, c1, c2⟩, d0, d1, d2⟩ := mkS.out _ hkx.out
    by_cases hA : Abv n a (b - a) x y i
    · have hi := abv_le hA
      have HA := Lib.hid hA
      clear hA
      go_wp2_with (go_at_call 53; refine (rabove_c _ _ _ n i a b x y (H1.out.after hkx.out) (G1.out.after hkx.out) hin hn hab hb1 lx ly).mono ?_; intro e wn hrn; obtain ⟨rfl, hbn⟩ := hrn.yes HA.out; have hk := Lib.hid (hkx.out.trans (hbn.mono hkx.out.size)); clear c0 c1 c2 d0 d1 d2 hrn hbn)
      go_roundg (n + 1 - (i + 1))
      case measure => omega
      case rel =>
        have hnew : Hid (∀ j, j < i + 1 → Abv n a (b - a) x y j) := fun j hj => by
          by_cases h1 : j < i
          · exact hall.out j h1
          · obtain rfl : j = i := by omega
            exact HA.out
        exact ⟨i + 1, by omega, rfl, by go_num, hnew, hk.out⟩
    · have HA := Lib.hid hA
      clear hA
      go_wp2_with (go_at_call 53; refine (rabove_c _ _ _ n i a b x y (H1.out.after hkx.out) (G1.out.after hkx.out) hin hn hab hb1 lx ly).mono ?_; intro e wn hrn; obtain ⟨rfl, hbn⟩ := hrn.no HA.out; have hk := Lib.hid (hkx.out.trans (hbn.mono hkx.out.size)); clear c0 c1 c2 d0 d1 d2 hrn hbn)
      go_ret2
      exact ⟨i, rfl, critR_first hall.out HA.out, HB0.out.trans (hk.out.mono HB0.out.size)⟩

theorem rCritical_c (w : World) (n : Int) (v u : Value) (X Y : F) (h : IsF w v X) (k : IsF w u Y) :
    Calls Try.prog 22 #[.int .i64 n, v, u] w fun e w' => ∃ r : Int × Int, e = .returned (.tuple #[.int .i64 r.1, .int .i64 r.2]) ∧ critF n X Y r ∧ Below w.heap.size w w' := by
  by_cases hc : rateE X = 0 ∧ fracE Y = 0 ∧ trialsB n 0 0 = true
  · obtain ⟨hr, hs, ht⟩ := hc
    have hck : checkE X (trialsB n 0 0) = 0 := by rw [ht]; exact checkE_true hr
    obtain ⟨a, b, rfl, hab, hb0, hb1, ea, eb⟩ := rate_fr hr
    obtain ⟨x, y, rfl, hok, hxy, ex', ey⟩ := frac_fr hs
    obtain ⟨t1, t2, t3, t4⟩ := trialsB_iff.1 ht
    obtain ⟨N, rfl⟩ : ∃ N : Nat, n = N := ⟨n.toNat, by omega⟩
    refine (rCritical_good w N a b x y v u h k (by omega) hab hb1 hok hr hs ht).mono ?_
    rintro e w' ⟨m, rfl, hm, hb⟩
    refine ⟨((m : Int), 0), rfl, ?_, hb⟩
    unfold critF
    rw [if_pos ⟨hck, hs⟩, ea, eb, ex', ey]
    exact ⟨m, rfl, by simpa using hm⟩
  · refine (rCritical_bad w n X Y v u h k _ _ _ rfl rfl rfl hc).mono ?_
    rintro e w' ⟨rfl, hb⟩
    refine ⟨(0, critErr (rateE X) (fracE Y)), rfl, ?_, hb⟩
    have h1 : ¬ (checkE X (trialsB n 0 0) = 0 ∧ fracE Y = 0) := by
      rintro ⟨h1, h2⟩
      obtain ⟨h3, h4⟩ := checkE_zero h1
      exact hc ⟨h3, h2, h4⟩
    have h2 : checkE X (trialsB n 0 0) = 1 ↔ rateE X = 1 := by
      unfold checkE
      by_cases h0 : rateE X = 0
      · rw [if_pos h0, h0]; split <;> omega
      · rw [if_neg h0]
    unfold critF critErr
    rw [if_neg h1]
    simp only [h2]
theorem critF_uniq {n : Int} {X Y : F} {r s : Int × Int} (h1 : critF n X Y r) (h2 : critF n X Y s) : r = s := by
  unfold critF at h1 h2
  split at h1
  · rename_i hc
    rw [if_pos hc] at h2
    obtain ⟨m, rfl, hm⟩ := h1
    obtain ⟨l, rfl, hl⟩ := h2
    rw [critR_uniq hm hl]
  · rename_i hc
    rw [if_neg hc] at h2
    rw [h1, h2]
end Go.Proofs.Ytppehiajocgiiaa
