/- The walk of RatioMakes: Of, Read, Valid and Text return what the reference returns. -/
import Derived.Test.YtaojdlcailpheaaQM5
import Derived.Test.YtaojdlcailpheaaQVF
import Derived.Test.YtaojdlcailpheaaQVR
import Derived.Test.YtaojdlcailpheaaQGk
set_option linter.unusedVariables false
namespace Go.Proofs.Ytaojdlcailpheaa
open Go.RowKit

def CM (W0 : World) (B : Nat) (X : F) (S : ByteArray) (l : Array Bool) (f : Nat → Value) (w : World) : Prop := (¬ up l 7 → Below W0.heap.size W0 w) ∧ (up l 7 → Fx (fun g => g = B) W0 w ∧ VarF w B X) ∧ (¬ up l 8 → f 3 = .string S)
theorem CM.keep {W0 : World} {B : Nat} {X : F} {S : ByteArray} {l : Array Bool} {f g : Nat → Value} {w w' : World} {i : Nat} (h : CM W0 B X S l f w) (hb : Below w.heap.size w w') (hi : 7 ≠ i) (hi8 : 8 ≠ i) (hg : g 3 = f 3) : CM W0 B X S (l.setIfInBounds i true) g w' :=
  ⟨fun u => (h.1 (fun u' => u (up_keep u'))).trans (hb.mono (h.1 (fun u' => u (up_keep u'))).size), fun u => ⟨(h.2.1 (up_set u hi)).1.below hb, (h.2.1 (up_set u hi)).2.after hb⟩, fun u => hg.trans (h.2.2 (fun u' => u (up_keep u')))⟩
theorem CM.keep8 {W0 : World} {B : Nat} {X : F} {S : ByteArray} {l : Array Bool} {f g : Nat → Value} {w : World} (h : CM W0 B X S l f w) (hl : 8 < l.size) : CM W0 B X S (l.setIfInBounds 8 true) g w :=
  ⟨fun u => h.1 (fun u' => u (up_keep u')), fun u => h.2.1 (up_set u (by omega)), fun u => absurd (up_self hl) u⟩
theorem CM.put {W0 w : World} {B : Nat} {X : F} {S : ByteArray} {l : Array Bool} {f g : Nat → Value} {u0 u1 u2 : Value} {pa pb : Option Addr} {na nb ca cb : Nat} (h : CM W0 B X S l f w) (hb : Below W0.heap.size W0 w) (hl : 7 < l.size) (hB : Box w B #[u0, u1, u2] 25)
    (h1 : Sl w (.slice pa na ca) X.num) (h2 : Sl w (.slice pb nb cb) X.den) (hg : g 3 = f 3) : CM W0 B X S (l.setIfInBounds 7 true) g (((w.setCell ⟨B, 0, none⟩ (.bool X.neg)).setCell ⟨B, 1, none⟩ (.slice pa na ca)).setCell ⟨B, 2, none⟩ (.slice pb nb cb)) := by
  have hf := fx_set3 (w := w) B (.bool X.neg) (.slice pa na ca) (.slice pb nb cb)
  refine ⟨fun u => absurd (up_self hl) u, fun _ => ⟨(Fx.of_below hb).trans hf, ?_⟩, fun u => hg.trans (h.2.2 (fun u' => u (up_keep u')))⟩
  exact ⟨_, _, end_box hB, h1.fx hf hB.noT, h2.fx hf hB.noT⟩

theorem valid_b (w : World) (v : Value) (x : F) (b : Bool) (hb : b = true ↔ ValidF x) (h : IsF w v x) : Calls Try.prog 19 #[v] w fun e w' => e = .returned (.bool b) ∧ Below w.heap.size w w' :=
  (Valid_c w v x h).mono (fun _ _ ⟨_, e, hr, hw⟩ => ⟨by rw [e, Bool.eq_iff_iff.2 (hr.trans hb.symm)], hw⟩)
theorem rvalid_b (w : World) (v : Value) (x : F) (b : Bool) (hb : b = true ↔ ValidF x) (h : IsF w v x) : Calls Try.prog 20 #[v] w fun e w' => e = .returned (.bool b) ∧ Below w.heap.size w w' :=
  (RValid_c w v x h).mono (fun _ _ ⟨_, e, hr, hw⟩ => ⟨by rw [e, Bool.eq_iff_iff.2 (hr.trans hb.symm)], hw⟩)
theorem tx_p (w : World) (v : Value) (x : F) (T : ByteArray) (ht : textX x = T) (h : IsF w v x) : Calls Try.prog 21 #[v] w fun e w' => e = .returned (.string T) ∧ Below w.heap.size w w' := ht ▸ Text_c w v x h
theorem tx_r (w : World) (v : Value) (x : F) (T : ByteArray) (ht : textX x = T) (h : IsF w v x) : Calls Try.prog 22 #[v] w fun e w' => e = .returned (.string T) ∧ Below w.heap.size w w' := ht ▸ rText_c w v x h
set_option maxRecDepth 100000 in
set_option maxHeartbeats 16000000 in
theorem makes_walk (w : World) (n d : Int) (v : Value) (x : F) (s : List UInt8) (n0 : -9223372036854775808 ≤ n) (n1 : n ≤ 9223372036854775807) (d0 : -9223372036854775808 ≤ d) (d1 : d ≤ 9223372036854775807) (h : IsFA w v x) (hl : s.length ≤ 9223372036854775807) :
    Calls Try.prog 3 #[.int .i64 n, .int .i64 d, v, .string (bs s)] w fun e w' => e = .returned (.bool true) ∧ Below w.heap.size w w' := by
  obtain ⟨va, vb, rfl, h1, h2⟩ := h
  obtain ⟨p, cp, rfl, hp1, hp2⟩ := h1.shape
  obtain ⟨q, cq, rfl, hq1, hq2⟩ := h2.shape
  have hA : IsFA w (.agg #[.bool x.neg, .slice p x.num.length cp, .slice q x.den.length cq]) x := ⟨_, _, rfl, h1, h2⟩
  obtain ⟨W0, hW⟩ : ∃ W0, W0 = w.alloc (.cells #[.bool x.neg, .slice p x.num.length cp, .slice q x.den.length cq] 25) := ⟨_, rfl⟩
  have hb0 : Below w.heap.size w W0 := hW ▸ held_alloc (Below.refl _ w)
  have bx : Box W0 w.heap.size #[.bool x.neg, .slice p x.num.length cp, .slice q x.den.length cq] 25 := hW ▸ Box.new w _ _
  have HA := Lib.hid (hA.after hb0)
  have HB0 := Lib.hid hb0
  have BX := Lib.hid bx
  clear h1 h2 hA hb0 bx
  obtain ⟨X, hX⟩ : ∃ X, cut40 x = X := ⟨_, rfl⟩
  have HX := Lib.hid hX
  clear hX
  obtain ⟨S, hS⟩ : ∃ S, bs s = S := ⟨_, rfl⟩
  have hsz : S.size = s.length := by rw [← hS]; rfl
  obtain ⟨s2, hs2⟩ : ∃ s2, s.take 700 = s2 := ⟨_, rfl⟩
  have hext : S.extract 0 (min (s.length : Int) 700).toNat = bs s2 := by
    rw [← hS, extract_front, ← hs2]
    congr 1
    rcases Nat.le_total s.length 700 with h | h
    · rw [show (min (s.length : Int) 700).toNat = s.length by omega, List.take_of_length_le h, List.take_of_length_le (Nat.le_refl _)]
    · rw [show (min (s.length : Int) 700).toNat = 700 by omega]
  have hs2l : s2.length ≤ 1000000000 := by rw [← hs2, List.length_take]; omega
  have mn0 : (0 : Int) ≤ min (s.length : Int) 700 := by omega
  have mn1 : min (s.length : Int) 700 ≤ (s.length : Int) := by omega
  rw [hS]
  clear hS hs2
  go_enter Try.func3, Try.ntmps3
  go_upto_region 1 with fail
  rw [← hW]
  clear hW
  refine wp_region_gj (J := GJ _ (fun _ => SO (.agg #[.bool x.neg, .slice p x.num.length cp, .slice q x.den.length cq]) X S (min (s.length : Int) 700) s.length s2) (CM W0 w.heap.size X S) _) (by kernel_rfl) ?_ ?_ (GJ.start ⟨fun _ => below_dr (Below.refl _ _), fun h => absurd h (up_none _ _), fun _ => rfl⟩)
  · intro listed a w9 i hr hj
    obtain ⟨hi12, hun, _, _, _⟩ := ready_mem hr
    have h12 : i ∈ List.range 9 := List.mem_range.2 hi12
    simp only [List.range, List.range.loop, List.mem_cons, List.not_mem_nil, or_false] at h12
    obtain ⟨f, rfl, hcm, hf⟩ := hj.opened [18, 19, 20, 21, 22, 23, 24, 3] (by kernel_rfl)
    have hcm : CM W0 w.heap.size X S listed f w9 := hcm
    rcases h12 with rfl | rfl | rfl | rfl | rfl | rfl | rfl | rfl | rfl
    · have n7 : ¬ up listed 7 := fun h => not_up hun (hj.closed 7 0 h (by kernel_rfl))
      have bw := hcm.1 n7
      have bxw := BX.out.after bw
      have y0 := (Box.cells3 bxw).1
      have y1 := (Box.cells3 bxw).2.1
      have y2 := (Box.cells3 bxw).2.2
      have yl := bxw.lt
      clear bxw
      refine GJ.op hj (by kernel_rfl) hr rfl [18, 19, 20, 21, 22, 23, 24, 3] (by kernel_rfl) (fun K hK => ?_)
      simp only [Act.put, List.foldl_cons, List.foldl_nil, List.setIfInBounds_toArray, List.set_cons_zero, List.set_cons_succ] at hK ⊢
      clear hj hf
      go_simp
      exact hK _ _ (fun k v _ _ h => h.keep (Below.refl _ _)) (fun t ht => rfl) (hcm.keep (Below.refl _ _) (by omega) (by omega) rfl)
    · have n7 : ¬ up listed 7 := fun h => not_up hun (hj.closed 7 1 h (by kernel_rfl))
      have bw := hcm.1 n7
      have e1 : f 18 = (.agg #[.bool x.neg, .slice p x.num.length cp, .slice q x.den.length cq]) := hf 0 _ _ rfl rfl (up_dep hr (by kernel_rfl))
      refine GJ.op hj (by kernel_rfl) hr rfl [18, 19, 20, 21, 22, 23, 24, 3] (by kernel_rfl) (fun K hK => ?_)
      simp only [Act.put, List.foldl_cons, List.foldl_nil, List.setIfInBounds_toArray, List.set_cons_zero, List.set_cons_succ] at hK ⊢
      clear hj hf
      rw [e1] at hK ⊢
      clear e1
      go_simp
      refine (own40_a w9 _ x (HA.out.after bw)).mono ?_
      rw [HX.out]
      rintro e w10 ⟨v10, rfl, hv10, hb10⟩
      exact hK _ _ (fun k v _ _ h => h.keep hb10) (fun t ht => hv10) (hcm.keep hb10 (by omega) (by omega) rfl)
    · have n8 : ¬ up listed 8 := fun h => not_up hun (hj.closed 8 2 h (by kernel_rfl))
      have ec1 : f 3 = .string S := hcm.2.2 n8
      have e1 : f 3 = .string S := hcm.2.2 n8
      refine GJ.op hj (by kernel_rfl) hr rfl [18, 19, 20, 21, 22, 23, 24, 3] (by kernel_rfl) (fun K hK => ?_)
      simp only [Act.put, List.foldl_cons, List.foldl_nil, List.setIfInBounds_toArray, List.set_cons_zero, List.set_cons_succ] at hK ⊢
      clear hj hf
      rw [e1] at hK ⊢
      clear e1
      go_simp
      exact hK _ _ (fun k v _ _ h => h.keep (Below.refl _ _)) (fun t ht => rfl) (hcm.keep (Below.refl _ _) (by omega) (by omega) ec1.symm)
    · have n8 : ¬ up listed 8 := fun h => not_up hun (hj.closed 8 3 h (by kernel_rfl))
      have ec1 : f 3 = .string S := hcm.2.2 n8
      have e1 : f 3 = .string S := hcm.2.2 n8
      refine GJ.op hj (by kernel_rfl) hr rfl [18, 19, 20, 21, 22, 23, 24, 3] (by kernel_rfl) (fun K hK => ?_)
      simp only [Act.put, List.foldl_cons, List.foldl_nil, List.setIfInBounds_toArray, List.set_cons_zero, List.set_cons_succ] at hK ⊢
      clear hj hf
      rw [e1] at hK ⊢
      clear e1
      go_simp
      exact hK _ _ (fun k v _ _ h => h.keep (Below.refl _ _)) (fun t ht => rfl) (hcm.keep (Below.refl _ _) (by omega) (by omega) ec1.symm)
    · have e1 : f 21 = .string S := hf 3 _ _ rfl rfl (up_dep hr (by kernel_rfl))
      refine GJ.op hj (by kernel_rfl) hr rfl [18, 19, 20, 21, 22, 23, 24, 3] (by kernel_rfl) (fun K hK => ?_)
      simp only [Act.put, List.foldl_cons, List.foldl_nil, List.setIfInBounds_toArray, List.set_cons_zero, List.set_cons_succ] at hK ⊢
      clear hj hf
      rw [e1] at hK ⊢
      clear e1
      go_simp
      exact hK _ _ (fun k v _ _ h => h.keep (Below.refl _ _)) (fun t ht => rfl) (hcm.keep (Below.refl _ _) (by omega) (by omega) rfl)
    · have e1 : f 22 = .int .i64 (s.length : Int) := hf 4 _ _ rfl rfl (up_dep hr (by kernel_rfl))
      refine GJ.op hj (by kernel_rfl) hr rfl [18, 19, 20, 21, 22, 23, 24, 3] (by kernel_rfl) (fun K hK => ?_)
      simp only [Act.put, List.foldl_cons, List.foldl_nil, List.setIfInBounds_toArray, List.set_cons_zero, List.set_cons_succ] at hK ⊢
      clear hj hf
      rw [e1] at hK ⊢
      clear e1
      go_simp
      exact hK _ _ (fun k v _ _ h => h.keep (Below.refl _ _)) (fun t ht => rfl) (hcm.keep (Below.refl _ _) (by omega) (by omega) rfl)
    · have e1 : f 20 = .string S := hf 2 _ _ rfl rfl (up_dep hr (by kernel_rfl))
      have e2 : f 23 = .int .i64 (min (s.length : Int) 700) := hf 5 _ _ rfl rfl (up_dep hr (by kernel_rfl))
      refine GJ.op hj (by kernel_rfl) hr rfl [18, 19, 20, 21, 22, 23, 24, 3] (by kernel_rfl) (fun K hK => ?_)
      simp only [Act.put, List.foldl_cons, List.foldl_nil, List.setIfInBounds_toArray, List.set_cons_zero, List.set_cons_succ] at hK ⊢
      clear hj hf
      rw [e1, e2] at hK ⊢
      clear e1 e2
      go_simp
      exact hK _ _ (fun k v _ _ h => h.keep (Below.refl _ _)) (fun t ht => rfl) (hcm.keep (Below.refl _ _) (by omega) (by omega) rfl)
    · have s1 : IsF w9 (f 19) X := hf 1 _ _ rfl rfl (up_dep hr (by kernel_rfl))
      have bw := hcm.1 (not_up hun)
      have bxw := BX.out.after bw
      obtain ⟨ua, ub, e1, h1, h2⟩ := s1
      obtain ⟨pa, ca, rfl, _, _⟩ := h1.shape
      obtain ⟨pb, cb, rfl, _, _⟩ := h2.shape
      have hsz7 := hj.lsize
      have hlt : 7 < listed.size := by rw [hsz7]; decide
      refine GJ.op hj (by kernel_rfl) hr rfl [18, 19, 20, 21, 22, 23, 24, 3] (by kernel_rfl) (fun K hK => ?_)
      simp only [Act.put, List.foldl_cons, List.foldl_nil, List.setIfInBounds_toArray, List.set_cons_zero, List.set_cons_succ] at hK ⊢
      clear hj hf
      obtain ⟨zb, hzb⟩ : ∃ z, f 19 = z := ⟨_, rfl⟩
      rw [hzb] at hK ⊢ e1
      subst e1
      clear hzb
      have y0 := (Box.cells3 bxw).1
      have y1 := (Box.cells3 bxw).2.1
      have y2 := (Box.cells3 bxw).2.2
      have yl := bxw.lt
      have q0 := bxw.frozen 0
      have q1 := bxw.frozen 1
      have q2 := bxw.frozen 2
      have BXW := Lib.hid bxw
      clear bxw
      go_simp
      exact hK undef _ (fun k v _ _ h => h.fx (fx_set3 _ _ _ _) (Box.noT BXW.out)) (fun t ht => by cases ht) (CM.put hcm bw hlt BXW.out h1 h2 rfl)
    · have hsz8 := hj.lsize
      have hlt : 8 < listed.size := by rw [hsz8]; decide
      have e1 : f 24 = .string (bs s2) := hf 6 _ _ rfl rfl (up_dep hr (by kernel_rfl))
      refine GJ.op hj (by kernel_rfl) hr rfl [18, 19, 20, 21, 22, 23, 24, 3] (by kernel_rfl) (fun K hK => ?_)
      simp only [Act.put, List.foldl_cons, List.foldl_nil, List.setIfInBounds_toArray, List.set_cons_zero, List.set_cons_succ] at hK ⊢
      clear hj hf
      rw [e1] at hK ⊢
      clear e1
      go_simp
      exact hK _ _ (fun k v _ _ h => h.keep (Below.refl _ _)) (fun t ht => rfl) (hcm.keep8 hlt)
  · intro listed a w10 hr hj
    have hu : ∀ k, k < 9 → up listed k := fun k hk => all_up (by kernel_rfl) hj.lsize hr k hk
    obtain ⟨f, rfl, hcm, hf⟩ := hj.opened [18, 19, 20, 21, 22, 23, 24, 3] (by kernel_rfl)
    have e1 : f 3 = .string (bs s2) := hf 8 _ _ rfl rfl (hu 8 (by omega))
    obtain ⟨hfx, hv⟩ := hcm.2.1 (hu 7 (by omega))
    have HV := Lib.hid hv
    have HB : Hid (Below w.heap.size w w10) := HB0.out.trans (hfx.toBelow HB0.out.size (fun g e => by rw [e]; exact Nat.le_refl _))
    clear hf hj hr hu hfx hv hcm
    simp only [List.foldl_cons, List.foldl_nil, List.setIfInBounds_toArray, List.set_cons_zero, List.set_cons_succ]
    rw [e1]
    clear e1
    generalize f 18 = g9
    generalize f 19 = g10
    generalize f 20 = g11
    generalize f 21 = g12
    generalize f 22 = g13
    generalize f 23 = g14
    generalize f 24 = g15
    clear f
    obtain ⟨va, vb, hbx, h1, h2⟩ := HV.out
    obtain ⟨pX, mX, rfl, _, _⟩ := h1.shape
    obtain ⟨qX, nX, rfl, _, _⟩ := h2.shape
    have CX := Lib.hid hbx
    have FX := Lib.hid (IsF.at_ h1 h2)
    clear hbx h1 h2
    obtain ⟨R, hR⟩ : ∃ R, readF s2 = R := ⟨_, rfl⟩
    have HR := Lib.hid hR
    obtain ⟨O, hO⟩ : ∃ O, ofF n d = O := ⟨_, rfl⟩
    have HO := Lib.hid hO
    obtain ⟨TX, hTX⟩ : ∃ TX, textX X = TX := ⟨_, rfl⟩
    have HTX := Lib.hid hTX
    obtain ⟨b, hb⟩ : ∃ b : Bool, b = true ↔ ValidF X := ⟨open Classical in decide (ValidF X), by simp⟩
    have HVB := Lib.hid hb
    have HCC : Hid (cut40 X = X) := by show _ = _; rw [← HX.out, cut40_idem]
    clear hR hO hTX hb
    obtain ⟨cX0, cX1, cX2⟩ := CX.out.cells3
    have ltX := CX.out.lt
    go_wp2_with fail
    refine (Of_c _ n d n0 n1 d0 d1).mono ?_
    rw [HO.out]
    rintro e w11 ⟨v, rfl, hv, hb11⟩
    have hv : IsF _ v (O.1) := hv
    obtain ⟨va, vb, rfl, h1, h2⟩ := hv
    obtain ⟨pA, mA, rfl, _, _⟩ := h1.shape
    obtain ⟨qA, nA, rfl, _, _⟩ := h2.shape
    have FA := Lib.hid (IsF.at_ h1 h2)
    clear h1 h2
    clear cX0 cX1 cX2 ltX
    replace CX := Lib.hid (CX.out.after hb11)
    replace FX := Lib.hid (FX.out.after hb11)
    replace HB := Lib.hid (HB.out.trans (hb11.mono HB.out.size))
    clear hb11
    have d_X_A : w.heap.size < w11.heap.size := CX.out.lt
    have g_A : w.heap.size ≤ w11.heap.size := by have := HB.out.size; omega
    obtain ⟨cX0, cX1, cX2⟩ := CX.out.cells3
    have ltX := CX.out.lt
    go_wp2_with fail
    refine (ROf_c _ n d n0 n1 d0 d1).mono ?_
    rw [HO.out]
    rintro e w12 ⟨v, rfl, hv, hb12⟩
    have hv : IsF _ v (O.1) := hv
    obtain ⟨va, vb, rfl, h1, h2⟩ := hv
    obtain ⟨pB, mB, rfl, _, _⟩ := h1.shape
    obtain ⟨qB, nB, rfl, _, _⟩ := h2.shape
    have FB := Lib.hid (IsF.at_ h1 h2)
    clear h1 h2
    clear cX0 cX1 cX2 ltX
    obtain ⟨hb12, CA⟩ := after_new hb12
    replace CA := Lib.hid CA
    replace CX := Lib.hid (CX.out.after hb12)
    replace FX := Lib.hid (FX.out.after hb12)
    replace FA := Lib.hid (FA.out.after hb12)
    replace HB := Lib.hid (HB.out.trans (hb12.mono HB.out.size))
    clear hb12
    have d_X_B : w.heap.size < w12.heap.size := CX.out.lt
    have d_A_B : w11.heap.size < w12.heap.size := CA.out.lt
    have g_B : w.heap.size ≤ w12.heap.size := by have := HB.out.size; omega
    obtain ⟨cX0, cX1, cX2⟩ := CX.out.cells3
    have ltX := CX.out.lt
    obtain ⟨cA0, cA1, cA2⟩ := CA.out.cells3
    have ltA := CA.out.lt
    go_wp2_with fail
    refine (Read_c _ s2 hs2l).mono ?_
    rw [HR.out]
    rintro e w13 ⟨v, rfl, hv, hb13⟩
    have hv : IsF _ v (R.1) := hv
    obtain ⟨va, vb, rfl, h1, h2⟩ := hv
    obtain ⟨pC, mC, rfl, _, _⟩ := h1.shape
    obtain ⟨qC, nC, rfl, _, _⟩ := h2.shape
    have FC := Lib.hid (IsF.at_ h1 h2)
    clear h1 h2
    clear cX0 cX1 cX2 ltX cA0 cA1 cA2 ltA
    obtain ⟨hb13, CB⟩ := after_new hb13
    replace CB := Lib.hid CB
    replace CX := Lib.hid (CX.out.after hb13)
    replace CA := Lib.hid (CA.out.after hb13)
    replace FX := Lib.hid (FX.out.after hb13)
    replace FA := Lib.hid (FA.out.after hb13)
    replace FB := Lib.hid (FB.out.after hb13)
    replace HB := Lib.hid (HB.out.trans (hb13.mono HB.out.size))
    clear hb13
    have d_X_C : w.heap.size < w13.heap.size := CX.out.lt
    have d_A_C : w11.heap.size < w13.heap.size := CA.out.lt
    have d_B_C : w12.heap.size < w13.heap.size := CB.out.lt
    have g_C : w.heap.size ≤ w13.heap.size := by have := HB.out.size; omega
    obtain ⟨cX0, cX1, cX2⟩ := CX.out.cells3
    have ltX := CX.out.lt
    obtain ⟨cA0, cA1, cA2⟩ := CA.out.cells3
    have ltA := CA.out.lt
    obtain ⟨cB0, cB1, cB2⟩ := CB.out.cells3
    have ltB := CB.out.lt
    go_wp2_with fail
    refine (rRead_c _ s2 hs2l).mono ?_
    rw [HR.out]
    rintro e w14 ⟨v, rfl, hv, hb14⟩
    have hv : IsF _ v (R.1) := hv
    obtain ⟨va, vb, rfl, h1, h2⟩ := hv
    obtain ⟨pD, mD, rfl, _, _⟩ := h1.shape
    obtain ⟨qD, nD, rfl, _, _⟩ := h2.shape
    have FD := Lib.hid (IsF.at_ h1 h2)
    clear h1 h2
    clear cX0 cX1 cX2 ltX cA0 cA1 cA2 ltA cB0 cB1 cB2 ltB
    obtain ⟨hb14, CC⟩ := after_new hb14
    replace CC := Lib.hid CC
    replace CX := Lib.hid (CX.out.after hb14)
    replace CA := Lib.hid (CA.out.after hb14)
    replace CB := Lib.hid (CB.out.after hb14)
    replace FX := Lib.hid (FX.out.after hb14)
    replace FA := Lib.hid (FA.out.after hb14)
    replace FB := Lib.hid (FB.out.after hb14)
    replace FC := Lib.hid (FC.out.after hb14)
    replace HB := Lib.hid (HB.out.trans (hb14.mono HB.out.size))
    clear hb14
    have d_X_D : w.heap.size < w14.heap.size := CX.out.lt
    have d_A_D : w11.heap.size < w14.heap.size := CA.out.lt
    have d_B_D : w12.heap.size < w14.heap.size := CB.out.lt
    have d_C_D : w13.heap.size < w14.heap.size := CC.out.lt
    have g_D : w.heap.size ≤ w14.heap.size := by have := HB.out.size; omega
    obtain ⟨cX0, cX1, cX2⟩ := CX.out.cells3
    have ltX := CX.out.lt
    obtain ⟨cA0, cA1, cA2⟩ := CA.out.cells3
    have ltA := CA.out.lt
    obtain ⟨cB0, cB1, cB2⟩ := CB.out.cells3
    have ltB := CB.out.lt
    obtain ⟨cC0, cC1, cC2⟩ := CC.out.cells3
    have ltC := CC.out.lt
    go_wp2_with fail
    refine (own40_a _ _ X (isF_arg (FX.out.alloc _))).mono ?_
    rw [HCC.out]
    rintro e w15 ⟨v, rfl, hv, hb15⟩
    have hv : IsF _ v (X) := hv
    obtain ⟨va, vb, rfl, h1, h2⟩ := hv
    obtain ⟨pY, mY, rfl, _, _⟩ := h1.shape
    obtain ⟨qY, nY, rfl, _, _⟩ := h2.shape
    have FY := Lib.hid (IsF.at_ h1 h2)
    clear h1 h2
    clear cX0 cX1 cX2 ltX cA0 cA1 cA2 ltA cB0 cB1 cB2 ltB cC0 cC1 cC2 ltC
    obtain ⟨hb15, CD⟩ := after_new hb15
    replace CD := Lib.hid CD
    replace CX := Lib.hid (CX.out.after hb15)
    replace CA := Lib.hid (CA.out.after hb15)
    replace CB := Lib.hid (CB.out.after hb15)
    replace CC := Lib.hid (CC.out.after hb15)
    replace FX := Lib.hid (FX.out.after hb15)
    replace FA := Lib.hid (FA.out.after hb15)
    replace FB := Lib.hid (FB.out.after hb15)
    replace FC := Lib.hid (FC.out.after hb15)
    replace FD := Lib.hid (FD.out.after hb15)
    replace HB := Lib.hid (HB.out.trans (hb15.mono HB.out.size))
    clear hb15
    obtain ⟨cX0, cX1, cX2⟩ := CX.out.cells3
    have ltX := CX.out.lt
    obtain ⟨cA0, cA1, cA2⟩ := CA.out.cells3
    have ltA := CA.out.lt
    obtain ⟨cB0, cB1, cB2⟩ := CB.out.cells3
    have ltB := CB.out.lt
    obtain ⟨cC0, cC1, cC2⟩ := CC.out.cells3
    have ltC := CC.out.lt
    obtain ⟨cD0, cD1, cD2⟩ := CD.out.cells3
    have ltD := CD.out.lt
    go_upto_region 7 with fail
    clear cX0 cX1 cX2 ltX cA0 cA1 cA2 ltA cB0 cB1 cB2 ltB cC0 cC1 cC2 ltC cD0 cD1 cD2 ltD
    obtain ⟨w30, hw⟩ : ∃ w30, w30 = w15.alloc (.cells #[.bool (X).neg, .slice pY (X).num.length mY, .slice qY (X).den.length nY] 25) := ⟨_, rfl⟩
    obtain ⟨hb2, CY⟩ := after_new (below_same hw)
    rw [← hw]
    clear hw
    replace FX := Lib.hid (FX.out.after hb2)
    replace FA := Lib.hid (FA.out.after hb2)
    replace FB := Lib.hid (FB.out.after hb2)
    replace FC := Lib.hid (FC.out.after hb2)
    replace FD := Lib.hid (FD.out.after hb2)
    replace FY := Lib.hid (FY.out.after hb2)
    replace CX := Lib.hid (CX.out.after hb2)
    replace CA := Lib.hid (CA.out.after hb2)
    replace CB := Lib.hid (CB.out.after hb2)
    replace CC := Lib.hid (CC.out.after hb2)
    replace CD := Lib.hid (CD.out.after hb2)
    replace HB := Lib.hid (HB.out.trans (hb2.mono HB.out.size))
    replace CY := Lib.hid CY
    clear hb2
    clear d_X_A g_A d_X_B d_A_B g_B d_X_C d_A_C d_B_C g_C d_X_D d_A_D d_B_D d_C_D g_D
    refine wp_region_gj (J := GJ _ (fun _ => SV (fun _ => none) (fun κ => match κ with | 0 => some (.agg #[.bool (O.1).neg, .slice pA (O.1).num.length mA, .slice qA (O.1).den.length nA]) | 1 => some (.int .i64 O.2) | 2 => some (.agg #[.bool (O.1).neg, .slice pB (O.1).num.length mB, .slice qB (O.1).den.length nB]) | 3 => some (.int .i64 O.2) | 4 => some (.bool true) | 5 => some (.bool true) | 6 => some (.agg #[.bool (R.1).neg, .slice pC (R.1).num.length mC, .slice qC (R.1).den.length nC]) | 7 => some (.int .i64 R.2) | 8 => some (.agg #[.bool (R.1).neg, .slice pD (R.1).num.length mD, .slice qD (R.1).den.length nD]) | 9 => some (.int .i64 R.2) | 10 => some (.bool true) | 11 => some (.bool true) | 12 => some (.bool true) | 13 => some (.agg #[.bool (X).neg, .slice pX (X).num.length mX, .slice qX (X).den.length nX]) | 14 => some (.bool b) | 15 => some (.agg #[.bool (X).neg, .slice pY (X).num.length mY, .slice qY (X).den.length nY]) | 16 => some (.bool b) | 17 => some (.bool true) | 18 => some (.bool true) | 19 => some (.bool true) | 20 => some (.agg #[.bool (X).neg, .slice pX (X).num.length mX, .slice qX (X).den.length nX]) | 21 => some (.string TX) | 22 => some (.agg #[.bool (X).neg, .slice pY (X).num.length mY, .slice qY (X).den.length nY]) | 23 => some (.string TX) | 24 => some (.bool true) | 25 => some (.bool true) | 26 => some (.bool true) | 27 => some (.agg #[.bool (X).neg, .slice pX (X).num.length mX, .slice qX (X).den.length nX]) | 28 => some (.agg #[.bool (X).neg, .slice pY (X).num.length mY, .slice qY (X).den.length nY]) | 29 => some (.bool true) | 30 => some (.bool true) | 31 => some (.bool true) | 32 => some (.bool true) | 33 => some (.bool true) | 34 => some (.bool true) | _ => none)) (fun _ _ w => Below w30.heap.size w30 w) _) (by kernel_rfl) ?_ ?_ (GJ.start (below_dr (Below.refl _ _)))
    · intro listed a w9 i hr hj
      obtain ⟨hi12, hun, _, _, _⟩ := ready_mem hr
      have h12 : i ∈ List.range 35 := List.mem_range.2 hi12
      simp only [List.range, List.range.loop, List.mem_cons, List.not_mem_nil, or_false] at h12
      obtain ⟨f, rfl, hcm, hf⟩ := hj.opened [49, 50, 51, 52, 53, 54, 55, 56, 57, 58, 59, 60, 61, 62, 63, 64, 65, 66, 67, 68, 69, 70, 71, 72, 73, 74, 75, 76, 77, 78, 79, 80, 81, 82, 8] (by kernel_rfl)
      have hcm : Below w30.heap.size w30 w9 := hcm
      rcases h12 with rfl | rfl | rfl | rfl | rfl | rfl | rfl | rfl | rfl | rfl | rfl | rfl | rfl | rfl | rfl | rfl | rfl | rfl | rfl | rfl | rfl | rfl | rfl | rfl | rfl | rfl | rfl | rfl | rfl | rfl | rfl | rfl | rfl | rfl | rfl
      · obtain ⟨k0, k1, k2⟩ := (CA.out.after hcm).cells3
        have klt := (CA.out.after hcm).lt
        refine GJ.op hj (by kernel_rfl) hr rfl [49, 50, 51, 52, 53, 54, 55, 56, 57, 58, 59, 60, 61, 62, 63, 64, 65, 66, 67, 68, 69, 70, 71, 72, 73, 74, 75, 76, 77, 78, 79, 80, 81, 82, 8] (by kernel_rfl) (fun K hK => ?_)
        simp only [Act.put, List.foldl_cons, List.foldl_nil, List.setIfInBounds_toArray, List.set_cons_zero, List.set_cons_succ] at hK ⊢
        clear hj hf
        go_simp
        exact hK _ _ (fun k v _ _ h => h.keep (Below.refl _ _)) (fun t ht => SV.eq rfl rfl) hcm
      · refine GJ.op hj (by kernel_rfl) hr rfl [49, 50, 51, 52, 53, 54, 55, 56, 57, 58, 59, 60, 61, 62, 63, 64, 65, 66, 67, 68, 69, 70, 71, 72, 73, 74, 75, 76, 77, 78, 79, 80, 81, 82, 8] (by kernel_rfl) (fun K hK => ?_)
        simp only [Act.put, List.foldl_cons, List.foldl_nil, List.setIfInBounds_toArray, List.set_cons_zero, List.set_cons_succ] at hK ⊢
        clear hj hf
        go_simp
        exact hK _ _ (fun k v _ _ h => h.keep (Below.refl _ _)) (fun t ht => SV.eq rfl rfl) hcm
      · obtain ⟨k0, k1, k2⟩ := (CB.out.after hcm).cells3
        have klt := (CB.out.after hcm).lt
        refine GJ.op hj (by kernel_rfl) hr rfl [49, 50, 51, 52, 53, 54, 55, 56, 57, 58, 59, 60, 61, 62, 63, 64, 65, 66, 67, 68, 69, 70, 71, 72, 73, 74, 75, 76, 77, 78, 79, 80, 81, 82, 8] (by kernel_rfl) (fun K hK => ?_)
        simp only [Act.put, List.foldl_cons, List.foldl_nil, List.setIfInBounds_toArray, List.set_cons_zero, List.set_cons_succ] at hK ⊢
        clear hj hf
        go_simp
        exact hK _ _ (fun k v _ _ h => h.keep (Below.refl _ _)) (fun t ht => SV.eq rfl rfl) hcm
      · refine GJ.op hj (by kernel_rfl) hr rfl [49, 50, 51, 52, 53, 54, 55, 56, 57, 58, 59, 60, 61, 62, 63, 64, 65, 66, 67, 68, 69, 70, 71, 72, 73, 74, 75, 76, 77, 78, 79, 80, 81, 82, 8] (by kernel_rfl) (fun K hK => ?_)
        simp only [Act.put, List.foldl_cons, List.foldl_nil, List.setIfInBounds_toArray, List.set_cons_zero, List.set_cons_succ] at hK ⊢
        clear hj hf
        go_simp
        exact hK _ _ (fun k v _ _ h => h.keep (Below.refl _ _)) (fun t ht => SV.eq rfl rfl) hcm
      · have e1 : f 49 = .agg #[.bool (O.1).neg, .slice pA (O.1).num.length mA, .slice qA (O.1).den.length nA] := (hf 0 _ _ rfl rfl (up_dep hr (by kernel_rfl))).2 _ rfl
        have e2 : f 50 = .int .i64 O.2 := (hf 1 _ _ rfl rfl (up_dep hr (by kernel_rfl))).2 _ rfl
        have e3 : f 51 = .agg #[.bool (O.1).neg, .slice pB (O.1).num.length mB, .slice qB (O.1).den.length nB] := (hf 2 _ _ rfl rfl (up_dep hr (by kernel_rfl))).2 _ rfl
        have e4 : f 52 = .int .i64 O.2 := (hf 3 _ _ rfl rfl (up_dep hr (by kernel_rfl))).2 _ rfl
        refine GJ.op hj (by kernel_rfl) hr rfl [49, 50, 51, 52, 53, 54, 55, 56, 57, 58, 59, 60, 61, 62, 63, 64, 65, 66, 67, 68, 69, 70, 71, 72, 73, 74, 75, 76, 77, 78, 79, 80, 81, 82, 8] (by kernel_rfl) (fun K hK => ?_)
        simp only [Act.put, List.foldl_cons, List.foldl_nil, List.setIfInBounds_toArray, List.set_cons_zero, List.set_cons_succ] at hK ⊢
        clear hj hf
        rw [e1, e2, e3, e4] at hK ⊢
        clear e1 e2 e3 e4
        go_simp
        refine (same_c _ _ _ O.2 O.1 (FA.out.after hcm) (FB.out.after hcm)).mono ?_
        rintro e w10 ⟨rfl, hb10⟩
        exact hK _ _ (fun k v _ _ h => h.keep hb10) (fun t ht => SV.eq rfl rfl) (hcm.trans (hb10.mono hcm.size))
      · have e1 : f 53 = .bool true := (hf 4 _ _ rfl rfl (up_dep hr (by kernel_rfl))).2 _ rfl
        refine GJ.op hj (by kernel_rfl) hr rfl [49, 50, 51, 52, 53, 54, 55, 56, 57, 58, 59, 60, 61, 62, 63, 64, 65, 66, 67, 68, 69, 70, 71, 72, 73, 74, 75, 76, 77, 78, 79, 80, 81, 82, 8] (by kernel_rfl) (fun K hK => ?_)
        simp only [Act.put, List.foldl_cons, List.foldl_nil, List.setIfInBounds_toArray, List.set_cons_zero, List.set_cons_succ] at hK ⊢
        clear hj hf
        rw [e1] at hK ⊢
        clear e1
        go_simp
        exact hK _ _ (fun k v _ _ h => h.keep (Below.refl _ _)) (fun t ht => SV.eq rfl rfl) hcm
      · have gg := (hj.got 5 _ _ rfl rfl (up_dep hr (by kernel_rfl))).2 _ rfl
        obtain ⟨k0, k1, k2⟩ := (CC.out.after hcm).cells3
        have klt := (CC.out.after hcm).lt
        refine GJ.yes hj (by kernel_rfl) hr rfl [49, 50, 51, 52, 53, 54, 55, 56, 57, 58, 59, 60, 61, 62, 63, 64, 65, 66, 67, 68, 69, 70, 71, 72, 73, 74, 75, 76, 77, 78, 79, 80, 81, 82, 8] (by kernel_rfl) rfl (j := 5) rfl rfl (c := true) gg rfl (fun K hK => ?_)
        clear gg
        simp only [Act.put, List.foldl_cons, List.foldl_nil, List.setIfInBounds_toArray, List.set_cons_zero, List.set_cons_succ] at hK ⊢
        clear hj hf
        go_simp
        exact hK _ _ (fun k v _ _ h => h.keep (Below.refl _ _)) (fun t ht => SV.eq rfl rfl) hcm
      · have gg := (hj.got 5 _ _ rfl rfl (up_dep hr (by kernel_rfl))).2 _ rfl
        refine GJ.yes hj (by kernel_rfl) hr rfl [49, 50, 51, 52, 53, 54, 55, 56, 57, 58, 59, 60, 61, 62, 63, 64, 65, 66, 67, 68, 69, 70, 71, 72, 73, 74, 75, 76, 77, 78, 79, 80, 81, 82, 8] (by kernel_rfl) rfl (j := 5) rfl rfl (c := true) gg rfl (fun K hK => ?_)
        clear gg
        simp only [Act.put, List.foldl_cons, List.foldl_nil, List.setIfInBounds_toArray, List.set_cons_zero, List.set_cons_succ] at hK ⊢
        clear hj hf
        go_simp
        exact hK _ _ (fun k v _ _ h => h.keep (Below.refl _ _)) (fun t ht => SV.eq rfl rfl) hcm
      · have gg := (hj.got 5 _ _ rfl rfl (up_dep hr (by kernel_rfl))).2 _ rfl
        obtain ⟨k0, k1, k2⟩ := (CD.out.after hcm).cells3
        have klt := (CD.out.after hcm).lt
        refine GJ.yes hj (by kernel_rfl) hr rfl [49, 50, 51, 52, 53, 54, 55, 56, 57, 58, 59, 60, 61, 62, 63, 64, 65, 66, 67, 68, 69, 70, 71, 72, 73, 74, 75, 76, 77, 78, 79, 80, 81, 82, 8] (by kernel_rfl) rfl (j := 5) rfl rfl (c := true) gg rfl (fun K hK => ?_)
        clear gg
        simp only [Act.put, List.foldl_cons, List.foldl_nil, List.setIfInBounds_toArray, List.set_cons_zero, List.set_cons_succ] at hK ⊢
        clear hj hf
        go_simp
        exact hK _ _ (fun k v _ _ h => h.keep (Below.refl _ _)) (fun t ht => SV.eq rfl rfl) hcm
      · have gg := (hj.got 5 _ _ rfl rfl (up_dep hr (by kernel_rfl))).2 _ rfl
        refine GJ.yes hj (by kernel_rfl) hr rfl [49, 50, 51, 52, 53, 54, 55, 56, 57, 58, 59, 60, 61, 62, 63, 64, 65, 66, 67, 68, 69, 70, 71, 72, 73, 74, 75, 76, 77, 78, 79, 80, 81, 82, 8] (by kernel_rfl) rfl (j := 5) rfl rfl (c := true) gg rfl (fun K hK => ?_)
        clear gg
        simp only [Act.put, List.foldl_cons, List.foldl_nil, List.setIfInBounds_toArray, List.set_cons_zero, List.set_cons_succ] at hK ⊢
        clear hj hf
        go_simp
        exact hK _ _ (fun k v _ _ h => h.keep (Below.refl _ _)) (fun t ht => SV.eq rfl rfl) hcm
      · have gg := (hj.got 5 _ _ rfl rfl (up_dep hr (by kernel_rfl))).2 _ rfl
        have e1 : f 55 = .agg #[.bool (R.1).neg, .slice pC (R.1).num.length mC, .slice qC (R.1).den.length nC] := (hf 6 _ _ rfl rfl (up_dep hr (by kernel_rfl))).2 _ rfl
        have e2 : f 56 = .int .i64 R.2 := (hf 7 _ _ rfl rfl (up_dep hr (by kernel_rfl))).2 _ rfl
        have e3 : f 57 = .agg #[.bool (R.1).neg, .slice pD (R.1).num.length mD, .slice qD (R.1).den.length nD] := (hf 8 _ _ rfl rfl (up_dep hr (by kernel_rfl))).2 _ rfl
        have e4 : f 58 = .int .i64 R.2 := (hf 9 _ _ rfl rfl (up_dep hr (by kernel_rfl))).2 _ rfl
        refine GJ.yes hj (by kernel_rfl) hr rfl [49, 50, 51, 52, 53, 54, 55, 56, 57, 58, 59, 60, 61, 62, 63, 64, 65, 66, 67, 68, 69, 70, 71, 72, 73, 74, 75, 76, 77, 78, 79, 80, 81, 82, 8] (by kernel_rfl) rfl (j := 5) rfl rfl (c := true) gg rfl (fun K hK => ?_)
        clear gg
        simp only [Act.put, List.foldl_cons, List.foldl_nil, List.setIfInBounds_toArray, List.set_cons_zero, List.set_cons_succ] at hK ⊢
        clear hj hf
        rw [e1, e2, e3, e4] at hK ⊢
        clear e1 e2 e3 e4
        go_simp
        refine (same_c _ _ _ R.2 R.1 (FC.out.after hcm) (FD.out.after hcm)).mono ?_
        rintro e w10 ⟨rfl, hb10⟩
        exact hK _ _ (fun k v _ _ h => h.keep hb10) (fun t ht => SV.eq rfl rfl) (hcm.trans (hb10.mono hcm.size))
      · have e1 : f 54 = .bool true := (hf 5 _ _ rfl rfl (up_dep hr (by kernel_rfl))).2 _ rfl
        have e2 : f 59 = .bool true := (hf 10 _ _ rfl rfl (up_dep hr (by kernel_rfl))).2 _ rfl
        refine GJ.op hj (by kernel_rfl) hr rfl [49, 50, 51, 52, 53, 54, 55, 56, 57, 58, 59, 60, 61, 62, 63, 64, 65, 66, 67, 68, 69, 70, 71, 72, 73, 74, 75, 76, 77, 78, 79, 80, 81, 82, 8] (by kernel_rfl) (fun K hK => ?_)
        simp only [Act.put, List.foldl_cons, List.foldl_nil, List.setIfInBounds_toArray, List.set_cons_zero, List.set_cons_succ] at hK ⊢
        clear hj hf
        rw [e1, e2] at hK ⊢
        clear e1 e2
        go_simp
        exact hK _ _ (fun k v _ _ h => h.keep (Below.refl _ _)) (fun t ht => SV.eq rfl rfl) hcm
      · have e1 : f 60 = .bool true := (hf 11 _ _ rfl rfl (up_dep hr (by kernel_rfl))).2 _ rfl
        refine GJ.op hj (by kernel_rfl) hr rfl [49, 50, 51, 52, 53, 54, 55, 56, 57, 58, 59, 60, 61, 62, 63, 64, 65, 66, 67, 68, 69, 70, 71, 72, 73, 74, 75, 76, 77, 78, 79, 80, 81, 82, 8] (by kernel_rfl) (fun K hK => ?_)
        simp only [Act.put, List.foldl_cons, List.foldl_nil, List.setIfInBounds_toArray, List.set_cons_zero, List.set_cons_succ] at hK ⊢
        clear hj hf
        rw [e1] at hK ⊢
        clear e1
        go_simp
        exact hK _ _ (fun k v _ _ h => h.keep (Below.refl _ _)) (fun t ht => SV.eq rfl rfl) hcm
      · have gg := (hj.got 12 _ _ rfl rfl (up_dep hr (by kernel_rfl))).2 _ rfl
        obtain ⟨k0, k1, k2⟩ := (CX.out.after hcm).cells3
        have klt := (CX.out.after hcm).lt
        refine GJ.yes hj (by kernel_rfl) hr rfl [49, 50, 51, 52, 53, 54, 55, 56, 57, 58, 59, 60, 61, 62, 63, 64, 65, 66, 67, 68, 69, 70, 71, 72, 73, 74, 75, 76, 77, 78, 79, 80, 81, 82, 8] (by kernel_rfl) rfl (j := 12) rfl rfl (c := true) gg rfl (fun K hK => ?_)
        clear gg
        simp only [Act.put, List.foldl_cons, List.foldl_nil, List.setIfInBounds_toArray, List.set_cons_zero, List.set_cons_succ] at hK ⊢
        clear hj hf
        go_simp
        exact hK _ _ (fun k v _ _ h => h.keep (Below.refl _ _)) (fun t ht => SV.eq rfl rfl) hcm
      · have gg := (hj.got 12 _ _ rfl rfl (up_dep hr (by kernel_rfl))).2 _ rfl
        have e1 : f 62 = .agg #[.bool (X).neg, .slice pX (X).num.length mX, .slice qX (X).den.length nX] := (hf 13 _ _ rfl rfl (up_dep hr (by kernel_rfl))).2 _ rfl
        refine GJ.yes hj (by kernel_rfl) hr rfl [49, 50, 51, 52, 53, 54, 55, 56, 57, 58, 59, 60, 61, 62, 63, 64, 65, 66, 67, 68, 69, 70, 71, 72, 73, 74, 75, 76, 77, 78, 79, 80, 81, 82, 8] (by kernel_rfl) rfl (j := 12) rfl rfl (c := true) gg rfl (fun K hK => ?_)
        clear gg
        simp only [Act.put, List.foldl_cons, List.foldl_nil, List.setIfInBounds_toArray, List.set_cons_zero, List.set_cons_succ] at hK ⊢
        clear hj hf
        rw [e1] at hK ⊢
        clear e1
        go_simp
        refine (valid_b _ _ X b HVB.out (FX.out.after hcm)).mono ?_
        rintro e w10 ⟨rfl, hb10⟩
        exact hK _ _ (fun k v _ _ h => h.keep hb10) (fun t ht => SV.eq rfl rfl) (hcm.trans (hb10.mono hcm.size))
      · have gg := (hj.got 12 _ _ rfl rfl (up_dep hr (by kernel_rfl))).2 _ rfl
        obtain ⟨k0, k1, k2⟩ := (CY.out.after hcm).cells3
        have klt := (CY.out.after hcm).lt
        refine GJ.yes hj (by kernel_rfl) hr rfl [49, 50, 51, 52, 53, 54, 55, 56, 57, 58, 59, 60, 61, 62, 63, 64, 65, 66, 67, 68, 69, 70, 71, 72, 73, 74, 75, 76, 77, 78, 79, 80, 81, 82, 8] (by kernel_rfl) rfl (j := 12) rfl rfl (c := true) gg rfl (fun K hK => ?_)
        clear gg
        simp only [Act.put, List.foldl_cons, List.foldl_nil, List.setIfInBounds_toArray, List.set_cons_zero, List.set_cons_succ] at hK ⊢
        clear hj hf
        go_simp
        exact hK _ _ (fun k v _ _ h => h.keep (Below.refl _ _)) (fun t ht => SV.eq rfl rfl) hcm
      · have gg := (hj.got 12 _ _ rfl rfl (up_dep hr (by kernel_rfl))).2 _ rfl
        have e1 : f 64 = .agg #[.bool (X).neg, .slice pY (X).num.length mY, .slice qY (X).den.length nY] := (hf 15 _ _ rfl rfl (up_dep hr (by kernel_rfl))).2 _ rfl
        refine GJ.yes hj (by kernel_rfl) hr rfl [49, 50, 51, 52, 53, 54, 55, 56, 57, 58, 59, 60, 61, 62, 63, 64, 65, 66, 67, 68, 69, 70, 71, 72, 73, 74, 75, 76, 77, 78, 79, 80, 81, 82, 8] (by kernel_rfl) rfl (j := 12) rfl rfl (c := true) gg rfl (fun K hK => ?_)
        clear gg
        simp only [Act.put, List.foldl_cons, List.foldl_nil, List.setIfInBounds_toArray, List.set_cons_zero, List.set_cons_succ] at hK ⊢
        clear hj hf
        rw [e1] at hK ⊢
        clear e1
        go_simp
        refine (rvalid_b _ _ X b HVB.out (FY.out.after hcm)).mono ?_
        rintro e w10 ⟨rfl, hb10⟩
        exact hK _ _ (fun k v _ _ h => h.keep hb10) (fun t ht => SV.eq rfl rfl) (hcm.trans (hb10.mono hcm.size))
      · have gg := (hj.got 12 _ _ rfl rfl (up_dep hr (by kernel_rfl))).2 _ rfl
        have e1 : f 63 = .bool b := (hf 14 _ _ rfl rfl (up_dep hr (by kernel_rfl))).2 _ rfl
        have e2 : f 65 = .bool b := (hf 16 _ _ rfl rfl (up_dep hr (by kernel_rfl))).2 _ rfl
        have ebb : (b == b) = true := by cases b <;> rfl
        refine GJ.yes hj (by kernel_rfl) hr rfl [49, 50, 51, 52, 53, 54, 55, 56, 57, 58, 59, 60, 61, 62, 63, 64, 65, 66, 67, 68, 69, 70, 71, 72, 73, 74, 75, 76, 77, 78, 79, 80, 81, 82, 8] (by kernel_rfl) rfl (j := 12) rfl rfl (c := true) gg rfl (fun K hK => ?_)
        clear gg
        simp only [Act.put, List.foldl_cons, List.foldl_nil, List.setIfInBounds_toArray, List.set_cons_zero, List.set_cons_succ] at hK ⊢
        clear hj hf
        rw [e1, e2] at hK ⊢
        clear e1 e2
        go_simp
        exact hK _ _ (fun k v _ _ h => h.keep (Below.refl _ _)) (fun t ht => SV.eq rfl rfl) hcm
      · have e1 : f 61 = .bool true := (hf 12 _ _ rfl rfl (up_dep hr (by kernel_rfl))).2 _ rfl
        have e2 : f 66 = .bool true := (hf 17 _ _ rfl rfl (up_dep hr (by kernel_rfl))).2 _ rfl
        refine GJ.op hj (by kernel_rfl) hr rfl [49, 50, 51, 52, 53, 54, 55, 56, 57, 58, 59, 60, 61, 62, 63, 64, 65, 66, 67, 68, 69, 70, 71, 72, 73, 74, 75, 76, 77, 78, 79, 80, 81, 82, 8] (by kernel_rfl) (fun K hK => ?_)
        simp only [Act.put, List.foldl_cons, List.foldl_nil, List.setIfInBounds_toArray, List.set_cons_zero, List.set_cons_succ] at hK ⊢
        clear hj hf
        rw [e1, e2] at hK ⊢
        clear e1 e2
        go_simp
        exact hK _ _ (fun k v _ _ h => h.keep (Below.refl _ _)) (fun t ht => SV.eq rfl rfl) hcm
      · have e1 : f 67 = .bool true := (hf 18 _ _ rfl rfl (up_dep hr (by kernel_rfl))).2 _ rfl
        refine GJ.op hj (by kernel_rfl) hr rfl [49, 50, 51, 52, 53, 54, 55, 56, 57, 58, 59, 60, 61, 62, 63, 64, 65, 66, 67, 68, 69, 70, 71, 72, 73, 74, 75, 76, 77, 78, 79, 80, 81, 82, 8] (by kernel_rfl) (fun K hK => ?_)
        simp only [Act.put, List.foldl_cons, List.foldl_nil, List.setIfInBounds_toArray, List.set_cons_zero, List.set_cons_succ] at hK ⊢
        clear hj hf
        rw [e1] at hK ⊢
        clear e1
        go_simp
        exact hK _ _ (fun k v _ _ h => h.keep (Below.refl _ _)) (fun t ht => SV.eq rfl rfl) hcm
      · have gg := (hj.got 19 _ _ rfl rfl (up_dep hr (by kernel_rfl))).2 _ rfl
        obtain ⟨k0, k1, k2⟩ := (CX.out.after hcm).cells3
        have klt := (CX.out.after hcm).lt
        refine GJ.yes hj (by kernel_rfl) hr rfl [49, 50, 51, 52, 53, 54, 55, 56, 57, 58, 59, 60, 61, 62, 63, 64, 65, 66, 67, 68, 69, 70, 71, 72, 73, 74, 75, 76, 77, 78, 79, 80, 81, 82, 8] (by kernel_rfl) rfl (j := 19) rfl rfl (c := true) gg rfl (fun K hK => ?_)
        clear gg
        simp only [Act.put, List.foldl_cons, List.foldl_nil, List.setIfInBounds_toArray, List.set_cons_zero, List.set_cons_succ] at hK ⊢
        clear hj hf
        go_simp
        exact hK _ _ (fun k v _ _ h => h.keep (Below.refl _ _)) (fun t ht => SV.eq rfl rfl) hcm
      · have gg := (hj.got 19 _ _ rfl rfl (up_dep hr (by kernel_rfl))).2 _ rfl
        have e1 : f 69 = .agg #[.bool (X).neg, .slice pX (X).num.length mX, .slice qX (X).den.length nX] := (hf 20 _ _ rfl rfl (up_dep hr (by kernel_rfl))).2 _ rfl
        refine GJ.yes hj (by kernel_rfl) hr rfl [49, 50, 51, 52, 53, 54, 55, 56, 57, 58, 59, 60, 61, 62, 63, 64, 65, 66, 67, 68, 69, 70, 71, 72, 73, 74, 75, 76, 77, 78, 79, 80, 81, 82, 8] (by kernel_rfl) rfl (j := 19) rfl rfl (c := true) gg rfl (fun K hK => ?_)
        clear gg
        simp only [Act.put, List.foldl_cons, List.foldl_nil, List.setIfInBounds_toArray, List.set_cons_zero, List.set_cons_succ] at hK ⊢
        clear hj hf
        rw [e1] at hK ⊢
        clear e1
        go_simp
        refine (tx_p _ _ X TX HTX.out (FX.out.after hcm)).mono ?_
        rintro e w10 ⟨rfl, hb10⟩
        exact hK _ _ (fun k v _ _ h => h.keep hb10) (fun t ht => SV.eq rfl rfl) (hcm.trans (hb10.mono hcm.size))
      · have gg := (hj.got 19 _ _ rfl rfl (up_dep hr (by kernel_rfl))).2 _ rfl
        obtain ⟨k0, k1, k2⟩ := (CY.out.after hcm).cells3
        have klt := (CY.out.after hcm).lt
        refine GJ.yes hj (by kernel_rfl) hr rfl [49, 50, 51, 52, 53, 54, 55, 56, 57, 58, 59, 60, 61, 62, 63, 64, 65, 66, 67, 68, 69, 70, 71, 72, 73, 74, 75, 76, 77, 78, 79, 80, 81, 82, 8] (by kernel_rfl) rfl (j := 19) rfl rfl (c := true) gg rfl (fun K hK => ?_)
        clear gg
        simp only [Act.put, List.foldl_cons, List.foldl_nil, List.setIfInBounds_toArray, List.set_cons_zero, List.set_cons_succ] at hK ⊢
        clear hj hf
        go_simp
        exact hK _ _ (fun k v _ _ h => h.keep (Below.refl _ _)) (fun t ht => SV.eq rfl rfl) hcm
      · have gg := (hj.got 19 _ _ rfl rfl (up_dep hr (by kernel_rfl))).2 _ rfl
        have e1 : f 71 = .agg #[.bool (X).neg, .slice pY (X).num.length mY, .slice qY (X).den.length nY] := (hf 22 _ _ rfl rfl (up_dep hr (by kernel_rfl))).2 _ rfl
        refine GJ.yes hj (by kernel_rfl) hr rfl [49, 50, 51, 52, 53, 54, 55, 56, 57, 58, 59, 60, 61, 62, 63, 64, 65, 66, 67, 68, 69, 70, 71, 72, 73, 74, 75, 76, 77, 78, 79, 80, 81, 82, 8] (by kernel_rfl) rfl (j := 19) rfl rfl (c := true) gg rfl (fun K hK => ?_)
        clear gg
        simp only [Act.put, List.foldl_cons, List.foldl_nil, List.setIfInBounds_toArray, List.set_cons_zero, List.set_cons_succ] at hK ⊢
        clear hj hf
        rw [e1] at hK ⊢
        clear e1
        go_simp
        refine (tx_r _ _ X TX HTX.out (FY.out.after hcm)).mono ?_
        rintro e w10 ⟨rfl, hb10⟩
        exact hK _ _ (fun k v _ _ h => h.keep hb10) (fun t ht => SV.eq rfl rfl) (hcm.trans (hb10.mono hcm.size))
      · have gg := (hj.got 19 _ _ rfl rfl (up_dep hr (by kernel_rfl))).2 _ rfl
        have e1 : f 70 = .string TX := (hf 21 _ _ rfl rfl (up_dep hr (by kernel_rfl))).2 _ rfl
        have e2 : f 72 = .string TX := (hf 23 _ _ rfl rfl (up_dep hr (by kernel_rfl))).2 _ rfl
        refine GJ.yes hj (by kernel_rfl) hr rfl [49, 50, 51, 52, 53, 54, 55, 56, 57, 58, 59, 60, 61, 62, 63, 64, 65, 66, 67, 68, 69, 70, 71, 72, 73, 74, 75, 76, 77, 78, 79, 80, 81, 82, 8] (by kernel_rfl) rfl (j := 19) rfl rfl (c := true) gg rfl (fun K hK => ?_)
        clear gg
        simp only [Act.put, List.foldl_cons, List.foldl_nil, List.setIfInBounds_toArray, List.set_cons_zero, List.set_cons_succ] at hK ⊢
        clear hj hf
        rw [e1, e2] at hK ⊢
        clear e1 e2
        go_simp
        exact hK _ _ (fun k v _ _ h => h.keep (Below.refl _ _)) (fun t ht => SV.eq rfl rfl) hcm
      · have e1 : f 68 = .bool true := (hf 19 _ _ rfl rfl (up_dep hr (by kernel_rfl))).2 _ rfl
        have e2 : f 73 = .bool true := (hf 24 _ _ rfl rfl (up_dep hr (by kernel_rfl))).2 _ rfl
        refine GJ.op hj (by kernel_rfl) hr rfl [49, 50, 51, 52, 53, 54, 55, 56, 57, 58, 59, 60, 61, 62, 63, 64, 65, 66, 67, 68, 69, 70, 71, 72, 73, 74, 75, 76, 77, 78, 79, 80, 81, 82, 8] (by kernel_rfl) (fun K hK => ?_)
        simp only [Act.put, List.foldl_cons, List.foldl_nil, List.setIfInBounds_toArray, List.set_cons_zero, List.set_cons_succ] at hK ⊢
        clear hj hf
        rw [e1, e2] at hK ⊢
        clear e1 e2
        go_simp
        exact hK _ _ (fun k v _ _ h => h.keep (Below.refl _ _)) (fun t ht => SV.eq rfl rfl) hcm
      · have e1 : f 74 = .bool true := (hf 25 _ _ rfl rfl (up_dep hr (by kernel_rfl))).2 _ rfl
        refine GJ.op hj (by kernel_rfl) hr rfl [49, 50, 51, 52, 53, 54, 55, 56, 57, 58, 59, 60, 61, 62, 63, 64, 65, 66, 67, 68, 69, 70, 71, 72, 73, 74, 75, 76, 77, 78, 79, 80, 81, 82, 8] (by kernel_rfl) (fun K hK => ?_)
        simp only [Act.put, List.foldl_cons, List.foldl_nil, List.setIfInBounds_toArray, List.set_cons_zero, List.set_cons_succ] at hK ⊢
        clear hj hf
        rw [e1] at hK ⊢
        clear e1
        go_simp
        exact hK _ _ (fun k v _ _ h => h.keep (Below.refl _ _)) (fun t ht => SV.eq rfl rfl) hcm
      · have gg := (hj.got 26 _ _ rfl rfl (up_dep hr (by kernel_rfl))).2 _ rfl
        obtain ⟨k0, k1, k2⟩ := (CX.out.after hcm).cells3
        have klt := (CX.out.after hcm).lt
        refine GJ.yes hj (by kernel_rfl) hr rfl [49, 50, 51, 52, 53, 54, 55, 56, 57, 58, 59, 60, 61, 62, 63, 64, 65, 66, 67, 68, 69, 70, 71, 72, 73, 74, 75, 76, 77, 78, 79, 80, 81, 82, 8] (by kernel_rfl) rfl (j := 26) rfl rfl (c := true) gg rfl (fun K hK => ?_)
        clear gg
        simp only [Act.put, List.foldl_cons, List.foldl_nil, List.setIfInBounds_toArray, List.set_cons_zero, List.set_cons_succ] at hK ⊢
        clear hj hf
        go_simp
        exact hK _ _ (fun k v _ _ h => h.keep (Below.refl _ _)) (fun t ht => SV.eq rfl rfl) hcm
      · have gg := (hj.got 26 _ _ rfl rfl (up_dep hr (by kernel_rfl))).2 _ rfl
        obtain ⟨k0, k1, k2⟩ := (CY.out.after hcm).cells3
        have klt := (CY.out.after hcm).lt
        refine GJ.yes hj (by kernel_rfl) hr rfl [49, 50, 51, 52, 53, 54, 55, 56, 57, 58, 59, 60, 61, 62, 63, 64, 65, 66, 67, 68, 69, 70, 71, 72, 73, 74, 75, 76, 77, 78, 79, 80, 81, 82, 8] (by kernel_rfl) rfl (j := 26) rfl rfl (c := true) gg rfl (fun K hK => ?_)
        clear gg
        simp only [Act.put, List.foldl_cons, List.foldl_nil, List.setIfInBounds_toArray, List.set_cons_zero, List.set_cons_succ] at hK ⊢
        clear hj hf
        go_simp
        exact hK _ _ (fun k v _ _ h => h.keep (Below.refl _ _)) (fun t ht => SV.eq rfl rfl) hcm
      · have gg := (hj.got 26 _ _ rfl rfl (up_dep hr (by kernel_rfl))).2 _ rfl
        have e1 : f 76 = .agg #[.bool (X).neg, .slice pX (X).num.length mX, .slice qX (X).den.length nX] := (hf 27 _ _ rfl rfl (up_dep hr (by kernel_rfl))).2 _ rfl
        have e2 : f 77 = .agg #[.bool (X).neg, .slice pY (X).num.length mY, .slice qY (X).den.length nY] := (hf 28 _ _ rfl rfl (up_dep hr (by kernel_rfl))).2 _ rfl
        refine GJ.yes hj (by kernel_rfl) hr rfl [49, 50, 51, 52, 53, 54, 55, 56, 57, 58, 59, 60, 61, 62, 63, 64, 65, 66, 67, 68, 69, 70, 71, 72, 73, 74, 75, 76, 77, 78, 79, 80, 81, 82, 8] (by kernel_rfl) rfl (j := 26) rfl rfl (c := true) gg rfl (fun K hK => ?_)
        clear gg
        simp only [Act.put, List.foldl_cons, List.foldl_nil, List.setIfInBounds_toArray, List.set_cons_zero, List.set_cons_succ] at hK ⊢
        clear hj hf
        rw [e1, e2] at hK ⊢
        clear e1 e2
        go_simp
        refine (same_yes _ _ _ X (FX.out.after hcm) (FY.out.after hcm)).mono ?_
        rintro e w10 ⟨rfl, hb10⟩
        exact hK _ _ (fun k v _ _ h => h.keep hb10) (fun t ht => SV.eq rfl rfl) (hcm.trans (hb10.mono hcm.size))
      · have e1 : f 75 = .bool true := (hf 26 _ _ rfl rfl (up_dep hr (by kernel_rfl))).2 _ rfl
        have e2 : f 78 = .bool true := (hf 29 _ _ rfl rfl (up_dep hr (by kernel_rfl))).2 _ rfl
        refine GJ.op hj (by kernel_rfl) hr rfl [49, 50, 51, 52, 53, 54, 55, 56, 57, 58, 59, 60, 61, 62, 63, 64, 65, 66, 67, 68, 69, 70, 71, 72, 73, 74, 75, 76, 77, 78, 79, 80, 81, 82, 8] (by kernel_rfl) (fun K hK => ?_)
        simp only [Act.put, List.foldl_cons, List.foldl_nil, List.setIfInBounds_toArray, List.set_cons_zero, List.set_cons_succ] at hK ⊢
        clear hj hf
        rw [e1, e2] at hK ⊢
        clear e1 e2
        go_simp
        exact hK _ _ (fun k v _ _ h => h.keep (Below.refl _ _)) (fun t ht => SV.eq rfl rfl) hcm
      · have e1 : f 79 = .bool true := (hf 30 _ _ rfl rfl (up_dep hr (by kernel_rfl))).2 _ rfl
        refine GJ.op hj (by kernel_rfl) hr rfl [49, 50, 51, 52, 53, 54, 55, 56, 57, 58, 59, 60, 61, 62, 63, 64, 65, 66, 67, 68, 69, 70, 71, 72, 73, 74, 75, 76, 77, 78, 79, 80, 81, 82, 8] (by kernel_rfl) (fun K hK => ?_)
        simp only [Act.put, List.foldl_cons, List.foldl_nil, List.setIfInBounds_toArray, List.set_cons_zero, List.set_cons_succ] at hK ⊢
        clear hj hf
        rw [e1] at hK ⊢
        clear e1
        go_simp
        exact hK _ _ (fun k v _ _ h => h.keep (Below.refl _ _)) (fun t ht => SV.eq rfl rfl) hcm
      · have gg := (hj.got 31 _ _ rfl rfl (up_dep hr (by kernel_rfl))).2 _ rfl
        refine GJ.yes hj (by kernel_rfl) hr rfl [49, 50, 51, 52, 53, 54, 55, 56, 57, 58, 59, 60, 61, 62, 63, 64, 65, 66, 67, 68, 69, 70, 71, 72, 73, 74, 75, 76, 77, 78, 79, 80, 81, 82, 8] (by kernel_rfl) rfl (j := 31) rfl rfl (c := true) gg rfl (fun K hK => ?_)
        clear gg
        simp only [Act.put, List.foldl_cons, List.foldl_nil, List.setIfInBounds_toArray, List.set_cons_zero, List.set_cons_succ] at hK ⊢
        clear hj hf
        go_simp
        refine (rworks_c _).mono ?_
        rintro e w10 ⟨rfl, hb10⟩
        exact hK _ _ (fun k v _ _ h => h.keep hb10) (fun t ht => SV.eq rfl rfl) (hcm.trans (hb10.mono hcm.size))
      · have e1 : f 80 = .bool true := (hf 31 _ _ rfl rfl (up_dep hr (by kernel_rfl))).2 _ rfl
        have e2 : f 81 = .bool true := (hf 32 _ _ rfl rfl (up_dep hr (by kernel_rfl))).2 _ rfl
        refine GJ.op hj (by kernel_rfl) hr rfl [49, 50, 51, 52, 53, 54, 55, 56, 57, 58, 59, 60, 61, 62, 63, 64, 65, 66, 67, 68, 69, 70, 71, 72, 73, 74, 75, 76, 77, 78, 79, 80, 81, 82, 8] (by kernel_rfl) (fun K hK => ?_)
        simp only [Act.put, List.foldl_cons, List.foldl_nil, List.setIfInBounds_toArray, List.set_cons_zero, List.set_cons_succ] at hK ⊢
        clear hj hf
        rw [e1, e2] at hK ⊢
        clear e1 e2
        go_simp
        exact hK _ _ (fun k v _ _ h => h.keep (Below.refl _ _)) (fun t ht => SV.eq rfl rfl) hcm
      · have e1 : f 82 = .bool true := (hf 33 _ _ rfl rfl (up_dep hr (by kernel_rfl))).2 _ rfl
        refine GJ.op hj (by kernel_rfl) hr rfl [49, 50, 51, 52, 53, 54, 55, 56, 57, 58, 59, 60, 61, 62, 63, 64, 65, 66, 67, 68, 69, 70, 71, 72, 73, 74, 75, 76, 77, 78, 79, 80, 81, 82, 8] (by kernel_rfl) (fun K hK => ?_)
        simp only [Act.put, List.foldl_cons, List.foldl_nil, List.setIfInBounds_toArray, List.set_cons_zero, List.set_cons_succ] at hK ⊢
        clear hj hf
        rw [e1] at hK ⊢
        clear e1
        go_simp
        exact hK _ _ (fun k v _ _ h => h.keep (Below.refl _ _)) (fun t ht => SV.eq rfl rfl) hcm
    · intro listed a w10 hr hj
      have hu : ∀ k, k < 35 → up listed k := fun k hk => all_up (by kernel_rfl) hj.lsize hr k hk
      obtain ⟨f, rfl, hcm, hf⟩ := hj.opened [49, 50, 51, 52, 53, 54, 55, 56, 57, 58, 59, 60, 61, 62, 63, 64, 65, 66, 67, 68, 69, 70, 71, 72, 73, 74, 75, 76, 77, 78, 79, 80, 81, 82, 8] (by kernel_rfl)
      replace hcm : Below w30.heap.size w30 w10 := hcm
      have e1 : f 8 = .bool true := (hf 34 _ _ rfl rfl (hu 34 (by omega))).2 _ rfl
      have HB8 := Lib.hid (HB.out.trans (hcm.mono HB.out.size))
      clear hf hj hr hu hcm
      simp only [List.foldl_cons, List.foldl_nil, List.setIfInBounds_toArray, List.set_cons_zero, List.set_cons_succ]
      rw [e1]
      clear e1
      generalize f 49 = g49
      generalize f 50 = g50
      generalize f 51 = g51
      generalize f 52 = g52
      generalize f 53 = g53
      generalize f 54 = g54
      generalize f 55 = g55
      generalize f 56 = g56
      generalize f 57 = g57
      generalize f 58 = g58
      generalize f 59 = g59
      generalize f 60 = g60
      generalize f 61 = g61
      generalize f 62 = g62
      generalize f 63 = g63
      generalize f 64 = g64
      generalize f 65 = g65
      generalize f 66 = g66
      generalize f 67 = g67
      generalize f 68 = g68
      generalize f 69 = g69
      generalize f 70 = g70
      generalize f 71 = g71
      generalize f 72 = g72
      generalize f 73 = g73
      generalize f 74 = g74
      generalize f 75 = g75
      generalize f 76 = g76
      generalize f 77 = g77
      generalize f 78 = g78
      generalize f 79 = g79
      generalize f 80 = g80
      generalize f 81 = g81
      generalize f 82 = g82
      clear f
      go_wp2_with fail
      go_ret
      exact ⟨rfl, HB8.out⟩
end Go.Proofs.Ytaojdlcailpheaa
