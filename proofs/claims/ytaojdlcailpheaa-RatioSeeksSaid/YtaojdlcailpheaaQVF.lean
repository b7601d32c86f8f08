/- Walks of the reference: Floor, Int; of the law's same. -/
import Derived.Test.YtaojdlcailpheaaK29
import Derived.Test.YtaojdlcailpheaaK26
set_option linter.unusedVariables false
namespace Go.Proofs.Ytaojdlcailpheaa
open Go.RowKit

theorem made_floor {s : Bool} {a b : Nat} (h : Ok s a b) : made s (floorN s a b) 1 = floorF (fr s a b) := by
  have hl := floorN_len h
  rw [floorF_yes h]
  unfold made
  rw [Nat.gcd_one_right, Nat.div_one, Nat.div_one, if_neg]
  rw [limbs_one]
  simp; omega

set_option maxRecDepth 100000 in
set_option maxHeartbeats 4000000 in
theorem rFloor_c (w : World) (v : Value) (x : F) (h : IsF w v x) : Calls Try.prog 36 #[v] w (RetF w (floorF x)) := by
  have HX := h
  obtain ⟨va, vb, rfl, h1, h2⟩ := h
  obtain ⟨p, cp, rfl, _, _⟩ := h1.shape
  obtain ⟨q, cq, rfl, _, _⟩ := h2.shape
  obtain ⟨W0, hW, bx, br, hsz, hb0⟩ := start2 w #[.bool x.neg, .slice p x.num.length cp, .slice q x.den.length cq] #[.bool false, .slice none 0 0, .slice none 0 0] 25
  obtain ⟨c0, c1, c2⟩ := bx.cells3
  have H0 := Lib.hid (HX.after hb0)
  have HB := Lib.hid hb0
  have BX := Lib.hid bx
  have BR := Lib.hid br
  clear HX h1 h2 bx br hb0
  by_cases hv : ValidF x
  · obtain ⟨neg, a, b, rfl, hok⟩ : ∃ neg a b, x = fr neg a b ∧ Ok neg a b := ⟨_, _, _, hv.eq, hv.2.2⟩
    have HV := Lib.hid hv
    have hpos := hok.pos
    have hmf := made_floor hok
    obtain ⟨R, hR⟩ : ∃ R, floorF (fr neg a b) = R := ⟨_, rfl⟩
    rw [hR] at hmf ⊢
    simp only [fr] at c0 c1 c2 hW
    replace H0 : Hid (IsF W0 (.agg #[.bool neg, .slice p (limbs a).length cp, .slice q (limbs b).length cq]) (fr neg a b)) := H0
    replace BX : Hid (Box W0 w.heap.size #[.bool neg, .slice p (limbs a).length cp, .slice q (limbs b).length cq] 25) := BX
    show Calls _ _ #[.agg #[.bool neg, .slice p (limbs a).length cp, .slice q (limbs b).length cq]] w _
    have hq1 : (limbs (a / b)).length ≤ 32 := Nat.le_trans (limbs_len_mono (Nat.div_le_self a b)) hok.n32
    have hn32 := hok.n32
    have hd32 := hok.d32
    unfold floorN at hmf
    obtain ⟨qq, hqq⟩ : ∃ qq, a / b = qq := ⟨_, rfl⟩
    obtain ⟨rr, hrr⟩ : ∃ rr, a % b = rr := ⟨_, rfl⟩
    rw [hqq, hrr] at hmf
    rw [hqq] at hq1
    have HM := Lib.hid hmf
    have HQ := Lib.hid hq1
    have HL : Hid ((limbs qq).length ≤ 32) := hq1
    have HQ1 : Hid ((limbs (qq + 1)).length ≤ 33) := by
      have := limbs_add_len qq 1
      have h1 := limbs_one_len
      show _ ≤ _
      omega
    have QQ := Lib.hid hqq
    have QR := Lib.hid hrr
    have LA : Hid ((limbs a).length ≤ 400000) := Nat.le_trans hn32 (by omega)
    have LB : Hid ((limbs b).length ≤ 400000) := Nat.le_trans hd32 (by omega)
    clear hv hmf hq1 hqq hrr hok hR hn32 hd32
    go_enter Try.func36, Try.ntmps36
    go_upto_region 1 with fail
    rw [← hW]
    clear hW
    go_wp2_with fail
    refine (RValid_c _ _ _ H0.out).mono ?_
    intro e w1 hr
    obtain ⟨rfl, hb1⟩ := hr.yes HV.out
    replace HB := Lib.hid (HB.out.trans (hb1.mono HB.out.size))
    replace BX := Lib.hid (BX.out.after hb1)
    replace BR := Lib.hid (BR.out.after hb1)
    have H1 := Lib.hid (H0.out.after hb1)
    clear hr hb1 c0 c1 c2 H0 HV
    obtain ⟨c0, c1, c2⟩ := BX.out.cells3
    have hlx := BX.out.lt
    have G1 : Hid (Sl w1 (.slice p (limbs a).length cp) (limbs a)) := H1.out.parts.2.1
    have G2 : Hid (Sl w1 (.slice q (limbs b).length cq) (limbs b)) := H1.out.parts.2.2
    clear H1
    go_upto_region 3 with fail
    go_wp2_with fail
    refine (Quotient_c _ _ _ a b G1.out G2.out hpos LA.out LB.out).mono ?_
    rw [QQ.out, QR.out]
    rintro e w2 ⟨v1, v2, rfl, hv1, hv2, hb2⟩
    obtain ⟨pq, cq', rfl, _, _⟩ := hv1.shape
    obtain ⟨pr, cr', rfl, _, _⟩ := hv2.shape
    replace HB := Lib.hid (HB.out.trans (hb2.mono HB.out.size))
    replace BX := Lib.hid (BX.out.after hb2)
    replace BR := Lib.hid (BR.out.after hb2)
    have HZ := Lib.hid hv1
    clear hv1 hv2 hb2 c0 c1 c2 hlx G1 G2 LA LB QQ QR
    obtain ⟨c0, c1, c2⟩ := BX.out.cells3
    have hlx := BX.out.lt
    cases neg with
    | false =>
      have HE : Hid (made false qq 1 = R) := by have := HM.out; rw [if_neg (by simp), Nat.add_zero] at this; exact this
      clear HM HQ1
      have hb4 := held_alloc (o := .cells #[.int .u32 1] 51) (Below.refl w2.heap.size w2)
      go_wp2_with fail
      refine (Made_c _ _ _ qq 1 false (HZ.out.alloc _) (lit_one _) (by omega) (Nat.le_trans HL.out (by omega)) (by rw [limbs_one]; simp)).mono ?_
      rw [HE.out]
      rintro e w5 ⟨v5, rfl, hv5, hb5⟩
      replace hb5 := hb4.trans (hb5.mono hb4.size)
      obtain ⟨va, vb, rfl, h1, h2⟩ := hv5
      obtain ⟨pa, ca, rfl, _, _⟩ := h1.shape
      obtain ⟨pb, cb, rfl, _, _⟩ := h2.shape
      have V1 := Lib.hid h1
      have V2 := Lib.hid h2
      replace HB := Lib.hid (HB.out.trans (hb5.mono HB.out.size))
      replace BR := Lib.hid (BR.out.after hb5)
      clear hb5 hb4 h1 h2 HE c0 c1 c2
      obtain ⟨⟨xn, xa, xb⟩, er⟩ := R
      obtain ⟨r0, r1, r2⟩ := BR.out.cells3
      have f0 := BR.out.frozen 0
      have f1 := BR.out.frozen 1
      have f2 := BR.out.frozen 2
      have hlr := BR.out.lt
      go_wp2_with fail
      obtain ⟨y0, y1, y2⟩ := (end_box BR.out (y0 := .bool xn) (y1 := .slice pa xa.length ca) (y2 := .slice pb xb.length cb)).cells3
      refine bodyPost_ret (v := .tuple #[.agg #[.bool xn, .slice pa xa.length ca, .slice pb xb.length cb], .int .i64 er]) (by simp [results, Try.results36, go_sem, y0, y1, y2]) rfl ?_
      exact ⟨_, rfl, IsF.result BR.out (fun _ h => by cases h) (fun _ h => by cases h) V1.out V2.out, ((HB.out.setCell (Nat.le_succ _) _).setCell (Nat.le_succ _) _).setCell (Nat.le_succ _) _⟩
    | true =>
      by_cases hr0 : rr = 0
      · have HE : Hid (made true qq 1 = R) := by have := HM.out; rw [if_neg (by simp [hr0]), Nat.add_zero] at this; exact this
        have hz : (limbs rr).length ≤ 0 := by rw [hr0, limbs_zero]; exact Nat.le_refl _
        clear HM HQ1 hr0
        have hb4 := held_alloc (o := .cells #[.int .u32 1] 51) (Below.refl w2.heap.size w2)
        go_wp2_with fail
        refine (Made_c _ _ _ qq 1 true (HZ.out.alloc _) (lit_one _) (by omega) (Nat.le_trans HL.out (by omega)) (by rw [limbs_one]; simp)).mono ?_
        rw [HE.out]
        rintro e w5 ⟨v5, rfl, hv5, hb5⟩
        replace hb5 := hb4.trans (hb5.mono hb4.size)
        obtain ⟨va, vb, rfl, h1, h2⟩ := hv5
        obtain ⟨pa, ca, rfl, _, _⟩ := h1.shape
        obtain ⟨pb, cb, rfl, _, _⟩ := h2.shape
        have V1 := Lib.hid h1
        have V2 := Lib.hid h2
        replace HB := Lib.hid (HB.out.trans (hb5.mono HB.out.size))
        replace BR := Lib.hid (BR.out.after hb5)
        clear hb5 hb4 h1 h2 HE c0 c1 c2
        obtain ⟨⟨xn, xa, xb⟩, er⟩ := R
        obtain ⟨r0, r1, r2⟩ := BR.out.cells3
        have f0 := BR.out.frozen 0
        have f1 := BR.out.frozen 1
        have f2 := BR.out.frozen 2
        have hlr := BR.out.lt
        go_wp2_with fail
        obtain ⟨y0, y1, y2⟩ := (end_box BR.out (y0 := .bool xn) (y1 := .slice pa xa.length ca) (y2 := .slice pb xb.length cb)).cells3
        refine bodyPost_ret (v := .tuple #[.agg #[.bool xn, .slice pa xa.length ca, .slice pb xb.length cb], .int .i64 er]) (by simp [results, Try.results36, go_sem, y0, y1, y2]) rfl ?_
        exact ⟨_, rfl, IsF.result BR.out (fun _ h => by cases h) (fun _ h => by cases h) V1.out V2.out, ((HB.out.setCell (Nat.le_succ _) _).setCell (Nat.le_succ _) _).setCell (Nat.le_succ _) _⟩
      · have hp3 := limbs_len_pos (show 0 < rr by omega)
        have HE : Hid (made true (qq + 1) 1 = R) := by have := HM.out; rw [if_pos ⟨rfl, hr0⟩] at this; exact this
        clear HM hr0
        go_wp2_with fail
        have hq := HZ.out.alloc (.cells #[.int .u32 1] 51)
        refine (Sum_c _ _ _ (limbs qq) (limbs 1) hq (lit_one _) (Nat.le_trans HL.out (by omega)) (by rw [limbs_one]; simp)).mono ?_
        rw [val_limbs, val_limbs]
        rintro e w3 ⟨v3, rfl, hv3, hb3⟩
        obtain ⟨pz, cz, rfl, _, _⟩ := hv3.shape
        obtain ⟨hb3, _⟩ := after_new hb3
        replace HZ := Lib.hid hv3
        replace HL := HQ1
        replace HB := Lib.hid (HB.out.trans (hb3.mono HB.out.size))
        replace BX := Lib.hid (BX.out.after hb3)
        replace BR := Lib.hid (BR.out.after hb3)
        clear hv3 hb3 hq c0 c1 c2 hlx HQ1
        obtain ⟨c0, c1, c2⟩ := BX.out.cells3
        have hlx := BX.out.lt
        have hb4 := held_alloc (o := .cells #[.int .u32 1] 51) (Below.refl w3.heap.size w3)
        go_wp2_with fail
        refine (Made_c _ _ _ (qq + 1) 1 true (HZ.out.alloc _) (lit_one _) (by omega) (Nat.le_trans HL.out (by omega)) (by rw [limbs_one]; simp)).mono ?_
        rw [HE.out]
        rintro e w5 ⟨v5, rfl, hv5, hb5⟩
        replace hb5 := hb4.trans (hb5.mono hb4.size)
        obtain ⟨va, vb, rfl, h1, h2⟩ := hv5
        obtain ⟨pa, ca, rfl, _, _⟩ := h1.shape
        obtain ⟨pb, cb, rfl, _, _⟩ := h2.shape
        have V1 := Lib.hid h1
        have V2 := Lib.hid h2
        replace HB := Lib.hid (HB.out.trans (hb5.mono HB.out.size))
        replace BR := Lib.hid (BR.out.after hb5)
        clear hb5 hb4 h1 h2 HE c0 c1 c2
        obtain ⟨⟨xn, xa, xb⟩, er⟩ := R
        obtain ⟨r0, r1, r2⟩ := BR.out.cells3
        have f0 := BR.out.frozen 0
        have f1 := BR.out.frozen 1
        have f2 := BR.out.frozen 2
        have hlr := BR.out.lt
        go_wp2_with fail
        obtain ⟨y0, y1, y2⟩ := (end_box BR.out (y0 := .bool xn) (y1 := .slice pa xa.length ca) (y2 := .slice pb xb.length cb)).cells3
        refine bodyPost_ret (v := .tuple #[.agg #[.bool xn, .slice pa xa.length ca, .slice pb xb.length cb], .int .i64 er]) (by simp [results, Try.results36, go_sem, y0, y1, y2]) rfl ?_
        exact ⟨_, rfl, IsF.result BR.out (fun _ h => by cases h) (fun _ h => by cases h) V1.out V2.out, ((HB.out.setCell (Nat.le_succ _) _).setCell (Nat.le_succ _) _).setCell (Nat.le_succ _) _⟩
  · have HV := Lib.hid hv
    have hsp := Lib.hid (floorF_no hv)
    clear hv
    go_enter Try.func36, Try.ntmps36
    go_upto_region 1 with fail
    rw [← hW]
    clear hW
    go_wp2_with fail
    refine (RValid_c _ _ _ H0.out).mono ?_
    intro e w1 hr
    obtain ⟨rfl, hb1⟩ := hr.no HV.out
    have BR1 := Lib.hid (BR.out.after hb1)
    have HB1 := Lib.hid (HB.out.trans (hb1.mono HB.out.size))
    clear hr hb1 c0 c1 c2 H0
    obtain ⟨r0, r1, r2⟩ := BR1.out.cells3
    have f0 := BR1.out.frozen 0
    have f1 := BR1.out.frozen 1
    have f2 := BR1.out.frozen 2
    have hlt := BR1.out.lt
    go_wp2_with fail
    obtain ⟨e0, e1, e2⟩ := (end_box BR1.out (y0 := .bool false) (y1 := .slice none 0 0) (y2 := .slice none 0 0)).cells3
    refine bodyPost_ret (v := .tuple #[.agg #[.bool false, .slice none 0 0, .slice none 0 0], .int .i64 1]) (by simp [results, Try.results36, go_sem, e0, e1, e2]) rfl ?_
    rw [hsp.out]
    exact ⟨_, rfl, IsF.zero _, ((HB1.out.setCell (Nat.le_succ _) _).setCell (Nat.le_succ _) _).setCell (Nat.le_succ _) _⟩

theorem or_low_u64 (x y : Nat) (hx : x < 4294967296) (hy : y < 4294967296) : bits .or .u64 ((y : Int) * 4294967296) (x : Int) = ((x + 4294967296 * y : Nat) : Int) := by
  have := u64_or_nat (y * 4294967296) x (by omega) (by omega)
  rw [show ((y * 4294967296 : Nat) : Int) = (y : Int) * 4294967296 from by omega] at this
  rw [this]
  congr 1
  rw [show y * 4294967296 = y <<< 32 from by rw [Nat.shiftLeft_eq], ← Nat.shiftLeft_add_eq_or_of_lt (by omega : x < 2 ^ 32), Nat.shiftLeft_eq]
  omega
set_option maxRecDepth 100000 in
set_option maxHeartbeats 4000000 in
theorem rInt_c (w : World) (v : Value) (x : F) (h : IsF w v x) : Calls Try.prog 38 #[v] w (RetIE w (intF x)) := by
  have HX := h
  obtain ⟨va, vb, rfl, h1, h2⟩ := h
  obtain ⟨p0, k0, rfl, _, _⟩ := h1.shape
  obtain ⟨p1, k1, rfl, _, _⟩ := h2.shape
  obtain ⟨W0, hW⟩ : ∃ W0, W0 = w.alloc (.cells #[.bool x.neg, .slice p0 x.num.length k0, .slice p1 x.den.length k1] 25) := ⟨_, rfl⟩
  have hb0 : Below w.heap.size w W0 := hW ▸ held_alloc (Below.refl _ w)
  have bx : Box W0 w.heap.size #[.bool x.neg, .slice p0 x.num.length k0, .slice p1 x.den.length k1] 25 := hW ▸ Box.new w _ _
  have H1 := Lib.hid (HX.after hb0)
  have BX := Lib.hid bx
  have HB := Lib.hid hb0
  obtain ⟨c0, c1, c2⟩ := bx.cells3
  have hlx := bx.lt
  clear HX h1 h2 hb0 bx
  by_cases hv : ValidF x
  · have HV := Lib.hid hv
    obtain ⟨s, a, b, rfl, hok⟩ : ∃ s a b, x = fr s a b ∧ Ok s a b := ⟨_, _, _, hv.eq, hv.2.2⟩
    have HI := Lib.hid (intF_fr hok)
    replace H1 : Hid (IsF W0 (.agg #[.bool s, .slice p0 (limbs a).length k0, .slice p1 (limbs b).length k1]) (fr s a b)) := H1
    replace BX : Hid (Box W0 w.heap.size #[.bool s, .slice p0 (limbs a).length k0, .slice p1 (limbs b).length k1] 25) := BX
    replace c0 : W0.cell? ⟨w.heap.size, 0, none⟩ = some (.bool s) := c0
    replace c1 : W0.cell? ⟨w.heap.size, 1, none⟩ = some (.slice p0 (limbs a).length k0) := c1
    replace c2 : W0.cell? ⟨w.heap.size, 2, none⟩ = some (.slice p1 (limbs b).length k1) := c2
    replace hW : W0 = w.alloc (.cells #[.bool s, .slice p0 (limbs a).length k0, .slice p1 (limbs b).length k1] 25) := hW
    show Calls _ _ #[.agg #[.bool s, .slice p0 (limbs a).length k0, .slice p1 (limbs b).length k1]] w _
    obtain ⟨R, hR⟩ : ∃ R, intF (fr s a b) = R := ⟨_, rfl⟩
    rw [hR] at HI ⊢
    have la : (limbs a).length ≤ 32 := hok.n32
    clear hR hv hok
    go_enter Try.func38, Try.ntmps38
    go_upto_region 1 with fail
    rw [← hW]
    clear hW
    go_wp2_with fail
    refine (RValid_c _ _ _ H1.out).mono ?_
    intro e w1 hr
    obtain ⟨rfl, hb1⟩ := hr.yes HV.out
    replace BX := Lib.hid (BX.out.after hb1)
    replace H1 := Lib.hid (H1.out.after hb1)
    replace HB := Lib.hid (HB.out.trans (hb1.mono HB.out.size))
    clear hr hb1 c0 c1 c2 hlx
    obtain ⟨c0, c1, c2⟩ := BX.out.cells3
    have hlx := BX.out.lt
    have G2 : Hid (Sl w1 (.slice p1 (limbs b).length k1) (limbs b)) := H1.out.parts.2.2
    have G1 : Hid (Sl w1 (.slice p0 (limbs a).length k0) (limbs a)) := H1.out.parts.2.1
    have hb3 := held_alloc (o := .cells #[.int .u32 1] 51) (Below.refl w1.heap.size w1)
    go_upto_region 3 with fail
    go_wp2_with fail
    refine (SameNat_c _ _ _ (limbs b) (limbs 1) (G2.out.alloc _) (lit_one _)).mono ?_
    rintro e w2 ⟨r, rfl, hr1, nk, rfl⟩
    replace hb3 := hb3.trans (below_drewN _ nk _)
    obtain ⟨w3, hw3⟩ : ∃ w3, w3 = (w1.alloc (.cells #[.int .u32 1] 51)).drewN nk := ⟨_, rfl⟩
    rw [← hw3] at hb3 ⊢
    replace BX := Lib.hid (BX.out.after hb3)
    replace G1 := Lib.hid (G1.out.after hb3)
    replace HB := Lib.hid (HB.out.trans (hb3.mono HB.out.size))
    clear hw3 hb3 c0 c1 c2 hlx G2 H1
    obtain ⟨c0, c1, c2⟩ := BX.out.cells3
    have hlx := BX.out.lt
    cases r with
    | false =>
      have hne : b ≠ 1 := fun e => by have := hr1.2 (by rw [e]); cases this
      have HR : Hid (R = (0, 2)) := by show _ = _; rw [HI.out, if_pos (.inl hne)]
      clear hr1 hne
      go_wp2_with fail
      go_ret2
      rw [HR.out]
      exact ⟨rfl, HB.out⟩
    | true =>
      have hb1 : b = 1 := limbs_inj (hr1.1 rfl)
      clear hr1
      by_cases hlen : 2 < (limbs a).length
      · have HR : Hid (R = (0, 2)) := by show _ = _; rw [HI.out, if_pos (.inr hlen)]
        clear hb1
        go_wp2_with fail
        go_ret2
        rw [HR.out]
        exact ⟨rfl, HB.out⟩
      · have HR : Hid (R = if s = true then (if a ≤ 9223372036854775808 then (-(a : Int), 0) else (0, 2)) else if a < 9223372036854775808 then ((a : Int), 0) else (0, 2)) := by
          show _ = _
          rw [HI.out, if_neg (by rintro (h | h); exact h hb1; exact hlen h)]
        have hl2 : (limbs a).length ≤ 2 := by omega
        have hval := lim_take_val hl2
        rw [val_limbs] at hval
        have HVAL := Lib.hid hval
        have hlb := limbs_lb a
        have hx0 := hlb.getD 0
        have hx1 := hlb.getD 1
        have hcap : k0 ≤ 9223372036854775807 := by assumption
        have hwl : IntKind.i64.wrap (((limbs a).length : Int) - 1) = ((limbs a).length : Int) - 1 := wrap_in (by omega) (by omega)
        clear hval hlb hb1 hlen HI
        go_upto_region 7 with fail
        go_loopg [4, 5] ((limbs a).length + 1) (fun g t4 t5 wx => ∃ (i n : Nat), i ≤ (limbs a).length ∧ g = i + 1 ∧ t5 = .int .i64 ((i : Int) - 1) ∧ t4 = .int .u64 (n : Int) ∧ wx = w3 ∧ Hid ((i = (limbs a).length → n = 0) ∧ (i + 1 = (limbs a).length → n = lim (limbs a) i) ∧ (i + 2 = (limbs a).length → n = lim (limbs a) 0 + 4294967296 * lim (limbs a) 1)))
        case atStart => exact ⟨(limbs a).length, 0, by omega, rfl, rfl, rfl, rfl, ⟨fun _ => rfl, fun h => by omega, fun h => by omega⟩⟩
        case round =>
          obtain ⟨i, n, hi, rfl, rfl, rfl, rfl, hn⟩ := hrel
          rcases i with _ | i
          · obtain rfl : n = a := by
              obtain ⟨v0, v1, v2⟩ := HVAL.out
              obtain ⟨n0, n1, n2⟩ := hn.out
              rcases (show (limbs a).length = 0 ∨ (limbs a).length = 1 ∨ (limbs a).length = 2 by omega) with h | h | h
              · exact (n0 h.symm).trans (v0 (by omega)).symm
              · exact (n1 (by omega)).trans (v1 (by omega)).symm
              · exact (n2 (by omega)).trans (v2 (by omega)).symm
            have hnlt : n < 18446744073709551616 := by
              obtain ⟨v0, v1, v2⟩ := HVAL.out
              rcases (show (limbs n).length = 0 ∨ (limbs n).length = 1 ∨ (limbs n).length = 2 by omega) with h | h | h
              · have := v0 (by omega); omega
              · have := v1 h; omega
              · have := v2 h; omega
            have hneg : decide ((0 : Int) ≤ ((0 : Nat) : Int) - 1) = false := by decide
            clear hn hx0 hx1 HVAL G1 hi
            rcases Nat.lt_trichotomy n 9223372036854775808 with hc | hc | hc
            · cases s with
              | true =>
                have HR2 : Hid (R = (-(n : Int), 0)) := by show _ = _; rw [HR.out, if_pos rfl, if_pos (by omega)]
                have hd1 : decide ((9223372036854775808 : Int) < (n : Int)) = false := decide_eq_false (by omega)
                have hd2 : ((n : Int) == 9223372036854775808) = false := beq_eq_false_iff_ne.2 (by omega)
                have HN : Hid (Go.RowKit.wrap64 (IntKind.u64.wrap (-(n : Int))) = -(n : Int)) := neg_i64 (by omega)
                clear hc
                go_wp2_with fail
                go_ret2
                rw [HR2.out]
                refine ⟨?_, HB.out⟩
                show Ending.returned (.tuple #[.int .i64 (Go.RowKit.wrap64 (IntKind.u64.wrap (-(n : Int)))), .int .i64 0]) = _
                rw [HN.out]
              | false =>
                have HR2 : Hid (R = ((n : Int), 0)) := by show _ = _; rw [HR.out, if_neg (by simp), if_pos (by omega)]
                have hd1 : decide ((9223372036854775808 : Int) < (n : Int)) = false := decide_eq_false (by omega)
                have hd2 : ((n : Int) == 9223372036854775808) = false := beq_eq_false_iff_ne.2 (by omega)
                have hw : IntKind.i64.wrap (n : Int) = (n : Int) := wrap_in (by omega) (by omega)
                clear hc
                go_wp2_with fail
                go_ret2
                rw [HR2.out]
                exact ⟨rfl, HB.out⟩
            · cases s with
              | true =>
                have HR2 : Hid (R = (-(n : Int), 0)) := by show _ = _; rw [HR.out, if_pos rfl, if_pos (by omega)]
                have hd1 : decide ((9223372036854775808 : Int) < (n : Int)) = false := decide_eq_false (by omega)
                have hd2 : ((n : Int) == 9223372036854775808) = true := beq_iff_eq.2 (by omega)
                have HN : Hid (Go.RowKit.wrap64 (IntKind.u64.wrap (-(n : Int))) = -(n : Int)) := neg_i64 (by omega)
                clear hc
                go_wp2_with fail
                go_ret2
                rw [HR2.out]
                refine ⟨?_, HB.out⟩
                show Ending.returned (.tuple #[.int .i64 (Go.RowKit.wrap64 (IntKind.u64.wrap (-(n : Int)))), .int .i64 0]) = _
                rw [HN.out]
              | false =>
                have HR2 : Hid (R = (0, 2)) := by show _ = _; rw [HR.out, if_neg (by simp), if_neg (by omega)]
                have hd1 : decide ((9223372036854775808 : Int) < (n : Int)) = false := decide_eq_false (by omega)
                have hd2 : ((n : Int) == 9223372036854775808) = true := beq_iff_eq.2 (by omega)
                clear hc
                go_wp2_with fail
                go_ret2
                rw [HR2.out]
                exact ⟨rfl, HB.out⟩
            · cases s with
              | true =>
                have HR2 : Hid (R = (0, 2)) := by show _ = _; rw [HR.out, if_pos rfl, if_neg (by omega)]
                have hd1 : decide ((9223372036854775808 : Int) < (n : Int)) = true := decide_eq_true (by omega)
                clear hc
                go_wp2_with fail
                go_ret2
                rw [HR2.out]
                exact ⟨rfl, HB.out⟩
              | false =>
                have HR2 : Hid (R = (0, 2)) := by show _ = _; rw [HR.out, if_neg (by simp), if_neg (by omega)]
                have hd1 : decide ((9223372036854775808 : Int) < (n : Int)) = true := decide_eq_true (by omega)
                clear hc
                go_wp2_with fail
                go_ret2
                rw [HR2.out]
                exact ⟨rfl, HB.out⟩
          · rw [show ((i + 1 : Nat) : Int) - 1 = (i : Int) from by omega]
            obtain ⟨_, pa, ca, e, _, _, _, h6⟩ := G1.out
            injection e with e _ e3
            subst e e3
            obtain ⟨bk, off, rfl, hbl, hcells⟩ := h6 (by omega)
            have hc := hcells i hi
            obtain ⟨x, hx⟩ : ∃ x, lim (limbs a) i = x := ⟨_, rfl⟩
            have hxlt : x < 4294967296 := by rw [← hx]; exact (limbs_lb a).getD i
            rw [hx] at hc
            have hil : (i : Int) < ((limbs a).length : Int) := by omega
            have hi0 : (0 : Int) ≤ (i : Int) := by omega
            have hwi : IntKind.i64.wrap ((i : Int) - 1) = (i : Int) - 1 := wrap_in (by omega) (by omega)
            by_cases h0 : i + 1 = (limbs a).length
            · obtain rfl : n = 0 := hn.out.1 h0
              have hor := or_zero_u64 x hxlt
              have hwx : IntKind.u64.wrap (x : Int) = (x : Int) := by rw [IntKind.wrap_u64]; omega
              have HX := Lib.hid hx
              have H0 := Lib.hid h0
              clear h6 hcells hn hx0 hx1 hx HVAL h0
              go_wp2_with fail
              go_roundg (i + 1)
              case measure => omega
              case rel => exact ⟨i, x, by omega, rfl, by go_num, by go_num, rfl, ⟨fun h => by have := H0.out; omega, fun _ => HX.out.symm, fun h => by have := H0.out; omega⟩⟩
            · obtain rfl : i = 0 := by omega
              obtain rfl : n = lim (limbs a) 1 := hn.out.2.1 (by omega)
              have hor := or_low_u64 x (lim (limbs a) 1) hxlt hx1
              have hwx : IntKind.u64.wrap ((lim (limbs a) 1 : Int) * 4294967296) = (lim (limbs a) 1 : Int) * 4294967296 := by rw [IntKind.wrap_u64]; omega
              have HX := Lib.hid hx
              have H0 := Lib.hid h0
              clear h6 hcells hn hx0 hx HVAL h0
              simp only [Nat.add_zero] at hc
              go_wp2_with fail
              go_roundg (0 + 1)
              case measure => omega
              case rel => exact ⟨0, _, by omega, rfl, by go_num, by go_num, rfl, ⟨fun h => by have := H0.out; omega, fun h => absurd h H0.out, fun _ => by rw [HX.out]⟩⟩
  · rw [intF_no hv]
    have HV := Lib.hid hv
    clear hv
    go_enter Try.func38, Try.ntmps38
    go_upto_region 1 with fail
    rw [← hW]
    clear hW
    go_wp2_with fail
    refine (RValid_c _ _ _ H1.out).mono ?_
    intro e w1 hr
    obtain ⟨rfl, hb1⟩ := hr.no HV.out
    replace HB := Lib.hid (HB.out.trans (hb1.mono HB.out.size))
    clear hr hb1 c0 c1 c2 hlx
    go_wp2_with fail
    go_ret2
    exact ⟨rfl, HB.out⟩

set_option maxRecDepth 100000 in
set_option maxHeartbeats 1000000 in
/-- The law's same, at one fraction and one error twice. -/
theorem same_c (w : World) (v u : Value) (e : Int) (x : F) (h : IsF w v x) (k : IsF w u x) : Calls Try.prog 18 #[v, .int .i64 e, u, .int .i64 e] w (fun r w' => r = .returned (.bool true) ∧ Below w.heap.size w w') := by
  have HX := h
  have KX := k
  obtain ⟨va, vb, rfl, h1, h2⟩ := h
  obtain ⟨vc, vd, rfl, k1, k2⟩ := k
  obtain ⟨W0, hW, bx, by', hsz, hb0⟩ := start2 w #[.bool x.neg, va, vb] #[.bool x.neg, vc, vd] 25
  obtain ⟨c0, c1, c2⟩ := bx.cells3
  obtain ⟨d0, d1, d2⟩ := by'.cells3
  have hlx := bx.lt
  have hly := by'.lt
  have H := Lib.hid (HX.after hb0)
  have K := Lib.hid (KX.after hb0)
  have HB := Lib.hid hb0
  clear HX KX bx by' hb0 h1 h2 k1 k2
  go_enter Try.func18, Try.ntmps18
  go_upto_region 1 with fail
  rw [← hW]
  clear hW
  go_wp2_with fail
  refine (Same_c _ _ _ x x H.out K.out).mono ?_
  intro r w1 hr
  obtain ⟨rfl, hb1⟩ := hr.yes rfl
  clear hr
  go_wp2_with fail
  go_ret
  exact ⟨rfl, HB.out.trans (hb1.mono HB.out.size)⟩
end Go.Proofs.Ytaojdlcailpheaa
