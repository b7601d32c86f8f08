/- Walks of the reference: order, Cmp; sum, Add, Mul. -/
import Derived.Test.YtaojdlcailpheaaK07
import Derived.Test.YtaojdlcailpheaaK17
import Derived.Test.YtaojdlcailpheaaK19
set_option linter.unusedVariables false
namespace Go.Proofs.Ytaojdlcailpheaa
open Go.RowKit

theorem Product_n (w : World) (va vb : Value) (a b : Nat) (h : Sl w va (limbs a)) (k : Sl w vb (limbs b)) (ha : (limbs a).length ≤ 1000000) (hb : (limbs b).length ≤ 1000000) :
    Calls Try.prog 70 #[va, vb] w (RetNat w (a * b)) := by
  have := Product_c w va vb _ _ h k ha hb; rwa [val_limbs, val_limbs] at this
theorem Sum_n (w : World) (va vb : Value) (a b : Nat) (h : Sl w va (limbs a)) (k : Sl w vb (limbs b)) (ha : (limbs a).length ≤ 1000000) (hb : (limbs b).length ≤ 1000000) :
    Calls Try.prog 78 #[va, vb] w (RetNat w (a + b)) := by
  have := Sum_c w va vb _ _ h k ha hb; rwa [val_limbs, val_limbs] at this
theorem Diff_n (w : World) (va vb : Value) (a b : Nat) (h : Sl w va (limbs a)) (k : Sl w vb (limbs b)) (hle : b ≤ a) (ha : (limbs a).length ≤ 1000000) :
    Calls Try.prog 99 #[va, vb] w (RetNat w (a - b)) := by
  have := Diff_c w va vb _ _ h k (limbs_len_mono hle) (by rw [val_limbs, val_limbs]; exact hle) ha; rwa [val_limbs, val_limbs] at this
theorem CmpS.is {m n : Nat} {r : Int} (h : CmpS (limbs m) (limbs n) r) : r = if m < n then -1 else if m = n then 0 else 1 := by
  have h1 := h.le
  have h2 := CmpS.ge h
  obtain ⟨g1, g2, g3⟩ := h
  by_cases c1 : m < n
  · rw [if_pos c1]
    rcases Nat.lt_trichotomy (limbs m).length (limbs n).length with l | l | l
    · exact g1 l
    · rcases g3 l with ⟨_, e⟩ | ⟨_, e⟩ | ⟨_, e⟩ <;> omega
    · have := g2 l; omega
  · rw [if_neg c1]
    by_cases c2 : m = n
    · rw [if_pos c2]; omega
    · rw [if_neg c2]
      rcases Nat.lt_trichotomy (limbs m).length (limbs n).length with l | l | l
      · have := g1 l; omega
      · rcases g3 l with ⟨_, e⟩ | ⟨_, e⟩ | ⟨_, e⟩ <;> omega
      · exact g2 l
theorem ordN_same {n1 : Bool} {a b c d : Nat} {r : Int} (h : CmpS (limbs (a * d)) (limbs (c * b)) r) : ordN n1 a b n1 c d = if n1 = true then -r else r := by
  unfold ordN
  rw [if_pos rfl, ← h.is]
theorem cmp_bd {m n : Nat} {r : Int} (h : CmpS (limbs m) (limbs n) r) : -1 ≤ r ∧ r ≤ 1 := by rw [h.is]; split; omega; split <;> omega

set_option maxRecDepth 100000 in
set_option maxHeartbeats 2000000 in
theorem rorder_c (w : World) (v u : Value) (n1 n2 : Bool) (a b c d : Nat) (h : IsF w v (fr n1 a b)) (k : IsF w u (fr n2 c d))
    (la : (limbs a).length ≤ 1000) (lb : (limbs b).length ≤ 1000) (lc : (limbs c).length ≤ 1000) (ld : (limbs d).length ≤ 1000) :
    Calls Try.prog 73 #[v, u] w fun e w' => e = .returned (.int .i64 (ordN n1 a b n2 c d)) ∧ Below w.heap.size w w' := by
  obtain ⟨va, vb, rfl, ha', hb'⟩ := h
  obtain ⟨vc, vd, rfl, hc', hd'⟩ := k
  simp only [fr] at ha' hb' hc' hd'
  simp only [fr]
  obtain ⟨W0, hW, bx, by', hsz, hb0⟩ := start2 w #[.bool n1, va, vb] #[.bool n2, vc, vd] 25
  have H1 := Lib.hid (ha'.after hb0)
  have H2 := Lib.hid (hb'.after hb0)
  have H3 := Lib.hid (hc'.after hb0)
  have H4 := Lib.hid (hd'.after hb0)
  have HB0 := Lib.hid hb0
  have BX := Lib.hid bx
  have BY := Lib.hid by'
  have mkS : Hid (∀ w', Below W0.heap.size W0 w' → w'.cell? ⟨w.heap.size, 1, none⟩ = some va ∧ w'.cell? ⟨w.heap.size + 1, 2, none⟩ = some vd ∧ w'.cell? ⟨w.heap.size + 1, 1, none⟩ = some vc ∧ w'.cell? ⟨w.heap.size, 2, none⟩ = some vb) :=
    fun w' hb => ⟨(bx.after hb).cell 1, (by'.after hb).cell 2, (by'.after hb).cell 1, (bx.after hb).cell 2⟩
  clear ha' hb' hc' hd' bx by' hb0
  go_enter Try.func73, Try.ntmps73
  go_upto_region 1 with fail
  rw [← hW]
  clear hW
  go_region_held3 (fun w' => w'.cell? ⟨w.heap.size, 1, none⟩ = some va ∧ w'.cell? ⟨w.heap.size + 1, 2, none⟩ = some vd ∧ w'.cell? ⟨w.heap.size + 1, 1, none⟩ = some vc ∧ w'.cell? ⟨w.heap.size, 2, none⟩ = some vb)
    (first | (refine mkS.out _ ?_; (repeat (first | with_reducible exact hk3 | with_reducible exact hk2 | with_reducible exact hk1 | with_reducible exact Below.refl _ _ | with_reducible refine below_dr ?_)); done))
    (first
     | (go_at_call_of 70 va; refine (Product_n _ va vd a d ?_ ?_ ?_ ?_).mono ?_; exact H1.out.after (below_dr (Below.refl _ W0)); exact H4.out.after (below_dr (Below.refl _ W0)); omega; omega; rintro e w1 ⟨vp, rfl, hp, hb1⟩; have hk1 := below_of_drew hb1; clear hb1)
     | (go_at_call_of 70 vc; refine (Product_n _ vc vb c b ?_ ?_ ?_ ?_).mono ?_; exact H3.out.after hk1; exact H2.out.after hk1; omega; omega; rintro e w2 ⟨vq, rfl, hq, hb2⟩; have hk2 := hk1.trans (hb2.mono hk1.size))
     | (go_at_call 96; refine (Compare_c _ vp vq (limbs (a * d)) (limbs (c * b)) (hp.after hb2) hq).mono ?_; rintro e w3 ⟨r, rfl, hr, n3, rfl⟩; have hk3 := hk2.trans (below_drewN _ n3 _)))
  have x0 : (w2.drewN n3).cell? ⟨w.heap.size, 0, none⟩ = some (.bool n1) := (BX.out.after hk3).cell 0
  have y0 : (w2.drewN n3).cell? ⟨w.heap.size + 1, 0, none⟩ = some (.bool n2) := (BY.out.after hk3).cell 0
  have HK := Lib.hid (HB0.out.trans (hk3.mono HB0.out.size))
  have HR := Lib.hid hr
  obtain ⟨rb1, rb2⟩ := cmp_bd hr
  clear hk1 hk2 hk3 hb2 hp hq hr mkS
  obtain ⟨W3, hW3⟩ : ∃ W3, W3 = w2.drewN n3 := ⟨_, rfl⟩
  rw [← hW3] at x0 y0 HK ⊢
  clear hW3
  cases n1 <;> cases n2
  · have hs : Hid (ordN false a b false c d = r) := by show _ = _; rw [ordN_same HR.out]; rfl
    go_wp2_with fail
    go_ret
    exact ⟨ret_int hs.out.symm, HK.out⟩
  · go_wp2_with fail
    go_ret
    exact ⟨ret_int rfl, HK.out⟩
  · go_wp2_with fail
    go_ret
    exact ⟨ret_int rfl, HK.out⟩
  · have hs : Hid (ordN true a b true c d = -r) := by show _ = _; rw [ordN_same HR.out]; rfl
    go_wp2_with fail
    go_ret
    exact ⟨ret_int hs.out.symm, HK.out⟩

set_option maxRecDepth 100000 in
set_option maxHeartbeats 2000000 in
theorem rCmp_c (w : World) (v u : Value) (x y : F) (h : IsF w v x) (k : IsF w u y) :
    Calls Try.prog 34 #[v, u] w fun e w' => e = .returned (.tuple #[.int .i64 (cmpF x y).1, .int .i64 (cmpF x y).2]) ∧ Below w.heap.size w w' := by
  have HX := h
  have HY := k
  obtain ⟨va, vb, rfl, _, _⟩ := h
  obtain ⟨vc, vd, rfl, _, _⟩ := k
  obtain ⟨W0, hW, bx, by', hsz, hb0⟩ := start2 w #[.bool x.neg, va, vb] #[.bool y.neg, vc, vd] 25
  obtain ⟨c0, c1, c2⟩ := bx.cells3
  obtain ⟨d0, d1, d2⟩ := by'.cells3
  have H1 := Lib.hid (HX.after hb0)
  have H2 := Lib.hid (HY.after hb0)
  have HB0 := Lib.hid hb0
  have BX := Lib.hid bx
  have BY := Lib.hid by'
  clear HX HY bx by' hb0
  by_cases hx : ValidF x
  · have HVX := Lib.hid hx
    clear hx
    by_cases hy : ValidF y
    · have HVY := Lib.hid hy
      have hsp := Lib.hid (cmpF_yes ⟨HVX.out, hy⟩)
      clear hy
      go_enter Try.func34, Try.ntmps34
      go_upto_region 1 with fail
      rw [← hW]
      clear hW
      go_wp2_with fail
      refine (RValid_c _ _ _ H1.out).mono ?_
      intro e w1 hr
      obtain ⟨rfl, hb1⟩ := hr.yes HVX.out
      obtain ⟨d0', d1', d2'⟩ := (BY.out.after hb1).cells3
      have K1 := Lib.hid (H1.out.after hb1)
      have K2 := Lib.hid (H2.out.after hb1)
      have BX1 := Lib.hid (BX.out.after hb1)
      have BY1 := Lib.hid (BY.out.after hb1)
      have KW := Lib.hid (HB0.out.trans (hb1.mono HB0.out.size))
      clear hr hb1 c0 c1 c2 d0 d1 d2 H1 H2 BX BY HB0
      go_wp2_with fail
      refine (RValid_c _ _ _ K2.out).mono ?_
      intro e w2 hr
      obtain ⟨rfl, hb1⟩ := hr.yes HVY.out
      obtain ⟨c0', c1', c2'⟩ := (BX1.out.after hb1).cells3
      obtain ⟨d0', d1', d2'⟩ := (BY1.out.after hb1).cells3
      have M1 := Lib.hid (K1.out.after hb1)
      have M2 := Lib.hid (K2.out.after hb1)
      have MW := Lib.hid (KW.out.trans (hb1.mono KW.out.size))
      clear hr hb1 K1 K2 KW BX1 BY1
      go_wp2_with fail
      have ok1 := HVX.out.2.2
      have ok2 := HVY.out.2.2
      have K1' := M1.out
      have K2' := M2.out
      rw [HVX.out.eq] at K1'
      rw [HVY.out.eq] at K2'
      refine (rorder_c w2 _ _ x.neg y.neg (val x.num) (val x.den) (val y.num) (val y.den) (by simpa only [fr] using K1') (by simpa only [fr] using K2') (by have := ok1.n32; omega) (by have := ok1.d32; omega) (by have := ok2.n32; omega) (by have := ok2.d32; omega)).mono ?_
      rintro e w5 ⟨rfl, hb5⟩
      have hbb := Lib.hid (MW.out.trans (hb5.mono MW.out.size))
      clear hb5 K1' K2' ok1 ok2
      go_wp2_with fail
      go_ret2
      exact ⟨by rw [hsp.out]; rfl, hbb.out⟩
    · have HVY := Lib.hid hy
      have hsp := Lib.hid (cmpF_no (x := x) (fun hh => hy hh.2))
      clear hy
      go_enter Try.func34, Try.ntmps34
      go_upto_region 1 with fail
      rw [← hW]
      clear hW
      go_wp2_with fail
      refine (RValid_c _ _ _ H1.out).mono ?_
      intro e w1 hr
      obtain ⟨rfl, hb1⟩ := hr.yes HVX.out
      obtain ⟨d0', d1', d2'⟩ := (BY.out.after hb1).cells3
      have K2 := Lib.hid (H2.out.after hb1)
      have KW := Lib.hid (HB0.out.trans (hb1.mono HB0.out.size))
      clear hr hb1 c0 c1 c2 d0 d1 d2 H1 H2 BX BY HB0
      go_wp2_with fail
      refine (RValid_c _ _ _ K2.out).mono ?_
      intro e w2 hr
      obtain ⟨rfl, hb1⟩ := hr.no HVY.out
      have MW := Lib.hid (KW.out.trans (hb1.mono KW.out.size))
      clear hr hb1 K2 KW
      go_wp2_with fail
      go_ret2
      exact ⟨by rw [hsp.out]; rfl, MW.out⟩
  · have HVX := Lib.hid hx
    have hsp := Lib.hid (cmpF_no (y := y) (fun hh => hx hh.1))
    clear hx
    go_enter Try.func34, Try.ntmps34
    go_upto_region 1 with fail
    rw [← hW]
    clear hW
    go_wp2_with fail
    refine (RValid_c _ _ _ H1.out).mono ?_
    intro e w1 hr
    obtain ⟨rfl, hb1⟩ := hr.no HVX.out
    have KW := Lib.hid (HB0.out.trans (hb1.mono HB0.out.size))
    clear hr hb1 c0 c1 c2 d0 d1 d2 H1 H2 BX BY HB0
    go_wp2_with fail
    go_ret2
    exact ⟨by rw [hsp.out]; rfl, KW.out⟩
end Go.Proofs.Ytaojdlcailpheaa
