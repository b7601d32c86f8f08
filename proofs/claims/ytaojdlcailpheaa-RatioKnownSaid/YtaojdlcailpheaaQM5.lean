/- The walk of RatioTexts: Read and Text are inverse to each other. -/
import Derived.Test.YtaojdlcailpheaaQMO
import Derived.Test.YtaojdlcailpheaaK30
set_option linter.unusedVariables false
namespace Go.Proofs.Ytaojdlcailpheaa
open Go.RowKit

theorem read_cases (s : List UInt8) : ((readF s).2 = 0 ∧ ValidF (readF s).1 ∧ textX (readF s).1 = bs s) ∨ (readF s).2 ≠ 0 := by
  by_cases h : ValidF (candF s) ∧ textL (minus1 s) (candN s) (candD s) = s
  · left
    rw [readF_ok (validF_fr.1 h.1) h.2]
    refine ⟨rfl, h.1, ?_⟩
    show textX (fr _ _ _) = _
    rw [textX_fr (validF_fr.1 h.1), h.2]
  · right
    rw [readF_bad h]; decide
theorem dS_len {n : Nat} (h : (limbs n).length ≤ 32) : (dS n).length ≤ 321 := by
  have e : (dS n).length = (decS n).size := by unfold dS; rw [Array.length_toList]; rfl
  rw [e]
  unfold decS
  split
  · show 1 ≤ 321; omega
  · have := revd_limbs (n := n)
    simp [ByteArray.size]; omega
theorem textL_len {s : Bool} {a b : Nat} (h : Ok s a b) : (textL s a b).length ≤ 1000000000 := by
  have h1 := dS_len h.n32
  have h2 := dS_len h.d32
  unfold textL
  split <;> simp <;> omega
/-- What the region of x, s = own(x), s[..] holds. -/
def SO (v0 : Value) (X : F) (S : ByteArray) (m : Int) (n : Nat) (s2 : List UInt8) (k : Nat) (v : Value) (w : World) : Prop :=
  match k with
  | 0 => v = v0
  | 1 => IsF w v X
  | 2 => v = .string S
  | 3 => v = .string S
  | 4 => v = .int .i64 (n : Int)
  | 5 => v = .int .i64 m
  | 6 => v = .string (bs s2)
  | 8 => v = .string (bs s2)
  | _ => True
theorem SO.fx {v0 : Value} {X : F} {S : ByteArray} {m : Int} {n : Nat} {s2 : List UInt8} {k : Nat} {v : Value} {T : Nat → Prop} {w w' : World} (h : SO v0 X S m n s2 k v w) (hf : Fx T w w') (hr : ∀ g, T g → ¬ Tag32 w g) : SO v0 X S m n s2 k v w' := by
  unfold SO at h ⊢
  split at h
  · exact h
  · exact h.fxr hf hr
  · exact h
  · exact h
  · exact h
  · exact h
  · exact h
  · exact h
  · trivial
theorem SO.keep {v0 : Value} {X : F} {S : ByteArray} {m : Int} {n : Nat} {s2 : List UInt8} {k : Nat} {v : Value} {w w' : World} (h : SO v0 X S m n s2 k v w) (hb : Below w.heap.size w w') : SO v0 X S m n s2 k v w' := h.fx (T := fun _ => False) (Fx.of_below hb) (fun _ e => e.elim)
def CO (W0 : World) (B : Nat) (X : F) (S : ByteArray) (l : Array Bool) (f : Nat → Value) (w : World) : Prop := (¬ up l 7 → Below W0.heap.size W0 w) ∧ (up l 7 → Fx (fun g => g = B) W0 w ∧ VarF w B X) ∧ (¬ up l 8 → f 1 = .string S)
theorem CO.keep {W0 : World} {B : Nat} {X : F} {S : ByteArray} {l : Array Bool} {f g : Nat → Value} {w w' : World} {i : Nat} (h : CO W0 B X S l f w) (hb : Below w.heap.size w w') (hi : 7 ≠ i) (hi8 : 8 ≠ i) (hg : g 1 = f 1) : CO W0 B X S (l.setIfInBounds i true) g w' :=
  ⟨fun u => (h.1 (fun u' => u (up_keep u'))).trans (hb.mono (h.1 (fun u' => u (up_keep u'))).size), fun u => ⟨(h.2.1 (up_set u hi)).1.below hb, (h.2.1 (up_set u hi)).2.after hb⟩, fun u => hg.trans (h.2.2 (fun u' => u (up_keep u')))⟩
theorem CO.keep8 {W0 : World} {B : Nat} {X : F} {S : ByteArray} {l : Array Bool} {f g : Nat → Value} {w : World} (h : CO W0 B X S l f w) (hl : 8 < l.size) : CO W0 B X S (l.setIfInBounds 8 true) g w :=
  ⟨fun u => h.1 (fun u' => u (up_keep u')), fun u => h.2.1 (up_set u (by omega)), fun u => absurd (up_self hl) u⟩
theorem CO.put {W0 w : World} {B : Nat} {X : F} {S : ByteArray} {l : Array Bool} {f g : Nat → Value} {u0 u1 u2 : Value} {pa pb : Option Addr} {na nb ca cb : Nat} (h : CO W0 B X S l f w) (hb : Below W0.heap.size W0 w) (hl : 7 < l.size) (hB : Box w B #[u0, u1, u2] 25)
    (h1 : Sl w (.slice pa na ca) X.num) (h2 : Sl w (.slice pb nb cb) X.den) (hg : g 1 = f 1) : CO W0 B X S (l.setIfInBounds 7 true) g (((w.setCell ⟨B, 0, none⟩ (.bool X.neg)).setCell ⟨B, 1, none⟩ (.slice pa na ca)).setCell ⟨B, 2, none⟩ (.slice pb nb cb)) := by
  have hf := fx_set3 (w := w) B (.bool X.neg) (.slice pa na ca) (.slice pb nb cb)
  refine ⟨fun u => absurd (up_self hl) u, fun _ => ⟨(Fx.of_below hb).trans hf, ?_⟩, fun u => hg.trans (h.2.2 (fun u' => u (up_keep u')))⟩
  exact ⟨_, _, end_box hB, h1.fx hf hB.noT, h2.fx hf hB.noT⟩

set_option maxRecDepth 100000 in
set_option maxHeartbeats 16000000 in
theorem texts_walk (w : World) (v : Value) (x : F) (s : List UInt8) (h : IsFA w v x) (hl : s.length ≤ 9223372036854775807) :
    Calls Try.prog 9 #[v, .string (bs s)] w fun e w' => e = .returned (.bool true) ∧ Below w.heap.size w w' := by
  obtain ⟨va, vb, rfl, h1, h2⟩ := h
  obtain ⟨p, cp, rfl, hp1, hp2⟩ := h1.shape
  obtain ⟨q, cq, rfl, hq1, hq2⟩ := h2.shape
  have hA : IsFA w (.agg #[.bool x.neg, .slice p x.num.length cp, .slice q x.den.length cq]) x := ⟨_, _, rfl, h1, h2⟩
  obtain ⟨W0, hW⟩ : ∃ W0, W0 = w.alloc (.cells #[.bool x.neg, .slice p x.num.length cp, .slice q x.den.length cq] 25) := ⟨_, rfl⟩
  have hb0 : Below w.heap.size w W0 := hW ▸ held_alloc (Below.refl _ w)
  have bx : Box W0 w.heap.size #[.bool x.neg, .slice p x.num.length cp, .slice q x.den.length cq] 25 := hW ▸ Box.new w _ _
  have HA := Lib.hid (hA.after hb0)
  have HB0 := Lib.hid hb0
  have BX := Lib.hid bx
  clear h1 h2 hA hb0 bx
  obtain ⟨X, hX⟩ : ∃ X, cut40 x = X := ⟨_, rfl⟩
  have HX := Lib.hid hX
  clear hX
  obtain ⟨S, hS⟩ : ∃ S, bs s = S := ⟨_, rfl⟩
  have hsz : S.size = s.length := by rw [← hS]; rfl
  obtain ⟨s2, hs2⟩ : ∃ s2, s.take 700 = s2 := ⟨_, rfl⟩
  have hext : S.extract 0 (min (s.length : Int) 700).toNat = bs s2 := by
    rw [← hS, extract_front, ← hs2]
    congr 1
    rcases Nat.le_total s.length 700 with h | h
    · rw [show (min (s.length : Int) 700).toNat = s.length by omega, List.take_of_length_le h, List.take_of_length_le (Nat.le_refl _)]
    · rw [show (min (s.length : Int) 700).toNat = 700 by omega]
  have hs2l : s2.length ≤ 1000000000 := by rw [← hs2, List.length_take]; omega
  have mn0 : (0 : Int) ≤ min (s.length : Int) 700 := by omega
  have mn1 : min (s.length : Int) 700 ≤ (s.length : Int) := by omega
  rw [hS]
  clear hS hs2
  go_enter Try.func9, Try.ntmps9
  go_upto_region 1 with fail
  rw [← hW]
  clear hW
  refine wp_region_gj (J := GJ _ (fun _ => SO (.agg #[.bool x.neg, .slice p x.num.length cp, .slice q x.den.length cq]) X S (min (s.length : Int) 700) s.length s2) (CO W0 w.heap.size X S) _) (by kernel_rfl) ?_ ?_ (GJ.start ⟨fun _ => below_dr (Below.refl _ _), fun h => absurd h (up_none _ _), fun _ => rfl⟩)
  · intro listed a w9 i hr hj
    obtain ⟨hi12, hun, _, _, _⟩ := ready_mem hr
    have h12 : i ∈ List.range 9 := List.mem_range.2 hi12
    simp only [List.range, List.range.loop, List.mem_cons, List.not_mem_nil, or_false] at h12
    obtain ⟨f, rfl, hcm, hf⟩ := hj.opened [9, 10, 11, 12, 13, 14, 15, 1] (by kernel_rfl)
    have hcm : CO W0 w.heap.size X S listed f w9 := hcm
    rcases h12 with rfl | rfl | rfl | rfl | rfl | rfl | rfl | rfl | rfl
    · have n7 : ¬ up listed 7 := fun h => not_up hun (hj.closed 7 0 h (by kernel_rfl))
      have bw := hcm.1 n7
      have bxw := BX.out.after bw
      have y0 := (Box.cells3 bxw).1
      have y1 := (Box.cells3 bxw).2.1
      have y2 := (Box.cells3 bxw).2.2
      have yl := bxw.lt
      clear bxw
      refine GJ.op hj (by kernel_rfl) hr rfl [9, 10, 11, 12, 13, 14, 15, 1] (by kernel_rfl) (fun K hK => ?_)
      simp only [Act.put, List.foldl_cons, List.foldl_nil, List.setIfInBounds_toArray, List.set_cons_zero, List.set_cons_succ] at hK ⊢
      clear hj hf
      go_simp
      exact hK _ _ (fun k v _ _ h => h.keep (Below.refl _ _)) (fun t ht => rfl) (hcm.keep (Below.refl _ _) (by omega) (by omega) rfl)
    · have n7 : ¬ up listed 7 := fun h => not_up hun (hj.closed 7 1 h (by kernel_rfl))
      have bw := hcm.1 n7
      have e1 : f 9 = (.agg #[.bool x.neg, .slice p x.num.length cp, .slice q x.den.length cq]) := hf 0 _ _ rfl rfl (up_dep hr (by kernel_rfl))
      refine GJ.op hj (by kernel_rfl) hr rfl [9, 10, 11, 12, 13, 14, 15, 1] (by kernel_rfl) (fun K hK => ?_)
      simp only [Act.put, List.foldl_cons, List.foldl_nil, List.setIfInBounds_toArray, List.set_cons_zero, List.set_cons_succ] at hK ⊢
      clear hj hf
      rw [e1] at hK ⊢
      clear e1
      go_simp
      refine (own40_a w9 _ x (HA.out.after bw)).mono ?_
      rw [HX.out]
      rintro e w10 ⟨v10, rfl, hv10, hb10⟩
      exact hK _ _ (fun k v _ _ h => h.keep hb10) (fun t ht => hv10) (hcm.keep hb10 (by omega) (by omega) rfl)
    · have n8 : ¬ up listed 8 := fun h => not_up hun (hj.closed 8 2 h (by kernel_rfl))
      have ec1 : f 1 = .string S := hcm.2.2 n8
      have e1 : f 1 = .string S := hcm.2.2 n8
      refine GJ.op hj (by kernel_rfl) hr rfl [9, 10, 11, 12, 13, 14, 15, 1] (by kernel_rfl) (fun K hK => ?_)
      simp only [Act.put, List.foldl_cons, List.foldl_nil, List.setIfInBounds_toArray, List.set_cons_zero, List.set_cons_succ] at hK ⊢
      clear hj hf
      rw [e1] at hK ⊢
      clear e1
      go_simp
      exact hK _ _ (fun k v _ _ h => h.keep (Below.refl _ _)) (fun t ht => rfl) (hcm.keep (Below.refl _ _) (by omega) (by omega) ec1.symm)
    · have n8 : ¬ up listed 8 := fun h => not_up hun (hj.closed 8 3 h (by kernel_rfl))
      have ec1 : f 1 = .string S := hcm.2.2 n8
      have e1 : f 1 = .string S := hcm.2.2 n8
      refine GJ.op hj (by kernel_rfl) hr rfl [9, 10, 11, 12, 13, 14, 15, 1] (by kernel_rfl) (fun K hK => ?_)
      simp only [Act.put, List.foldl_cons, List.foldl_nil, List.setIfInBounds_toArray, List.set_cons_zero, List.set_cons_succ] at hK ⊢
      clear hj hf
      rw [e1] at hK ⊢
      clear e1
      go_simp
      exact hK _ _ (fun k v _ _ h => h.keep (Below.refl _ _)) (fun t ht => rfl) (hcm.keep (Below.refl _ _) (by omega) (by omega) ec1.symm)
    · have e1 : f 12 = .string S := hf 3 _ _ rfl rfl (up_dep hr (by kernel_rfl))
      refine GJ.op hj (by kernel_rfl) hr rfl [9, 10, 11, 12, 13, 14, 15, 1] (by kernel_rfl) (fun K hK => ?_)
      simp only [Act.put, List.foldl_cons, List.foldl_nil, List.setIfInBounds_toArray, List.set_cons_zero, List.set_cons_succ] at hK ⊢
      clear hj hf
      rw [e1] at hK ⊢
      clear e1
      go_simp
      exact hK _ _ (fun k v _ _ h => h.keep (Below.refl _ _)) (fun t ht => rfl) (hcm.keep (Below.refl _ _) (by omega) (by omega) rfl)
    · have e1 : f 13 = .int .i64 (s.length : Int) := hf 4 _ _ rfl rfl (up_dep hr (by kernel_rfl))
      refine GJ.op hj (by kernel_rfl) hr rfl [9, 10, 11, 12, 13, 14, 15, 1] (by kernel_rfl) (fun K hK => ?_)
      simp only [Act.put, List.foldl_cons, List.foldl_nil, List.setIfInBounds_toArray, List.set_cons_zero, List.set_cons_succ] at hK ⊢
      clear hj hf
      rw [e1] at hK ⊢
      clear e1
      go_simp
      exact hK _ _ (fun k v _ _ h => h.keep (Below.refl _ _)) (fun t ht => rfl) (hcm.keep (Below.refl _ _) (by omega) (by omega) rfl)
    · have e1 : f 11 = .string S := hf 2 _ _ rfl rfl (up_dep hr (by kernel_rfl))
      have e2 : f 14 = .int .i64 (min (s.length : Int) 700) := hf 5 _ _ rfl rfl (up_dep hr (by kernel_rfl))
      refine GJ.op hj (by kernel_rfl) hr rfl [9, 10, 11, 12, 13, 14, 15, 1] (by kernel_rfl) (fun K hK => ?_)
      simp only [Act.put, List.foldl_cons, List.foldl_nil, List.setIfInBounds_toArray, List.set_cons_zero, List.set_cons_succ] at hK ⊢
      clear hj hf
      rw [e1, e2] at hK ⊢
      clear e1 e2
      go_simp
      exact hK _ _ (fun k v _ _ h => h.keep (Below.refl _ _)) (fun t ht => rfl) (hcm.keep (Below.refl _ _) (by omega) (by omega) rfl)
    · have s1 : IsF w9 (f 10) X := hf 1 _ _ rfl rfl (up_dep hr (by kernel_rfl))
      have bw := hcm.1 (not_up hun)
      have bxw := BX.out.after bw
      obtain ⟨ua, ub, e1, h1, h2⟩ := s1
      obtain ⟨pa, ca, rfl, _, _⟩ := h1.shape
      obtain ⟨pb, cb, rfl, _, _⟩ := h2.shape
      have hsz7 := hj.lsize
      have hlt : 7 < listed.size := by rw [hsz7]; decide
      refine GJ.op hj (by kernel_rfl) hr rfl [9, 10, 11, 12, 13, 14, 15, 1] (by kernel_rfl) (fun K hK => ?_)
      simp only [Act.put, List.foldl_cons, List.foldl_nil, List.setIfInBounds_toArray, List.set_cons_zero, List.set_cons_succ] at hK ⊢
      clear hj hf
      obtain ⟨zb, hzb⟩ : ∃ z, f 10 = z := ⟨_, rfl⟩
      rw [hzb] at hK ⊢ e1
      subst e1
      clear hzb
      have y0 := (Box.cells3 bxw).1
      have y1 := (Box.cells3 bxw).2.1
      have y2 := (Box.cells3 bxw).2.2
      have yl := bxw.lt
      have q0 := bxw.frozen 0
      have q1 := bxw.frozen 1
      have q2 := bxw.frozen 2
      have BXW := Lib.hid bxw
      clear bxw
      go_simp
      exact hK undef _ (fun k v _ _ h => h.fx (fx_set3 _ _ _ _) (Box.noT BXW.out)) (fun t ht => by cases ht) (CO.put hcm bw hlt BXW.out h1 h2 rfl)
    · have hsz8 := hj.lsize
      have hlt : 8 < listed.size := by rw [hsz8]; decide
      have e1 : f 15 = .string (bs s2) := hf 6 _ _ rfl rfl (up_dep hr (by kernel_rfl))
      refine GJ.op hj (by kernel_rfl) hr rfl [9, 10, 11, 12, 13, 14, 15, 1] (by kernel_rfl) (fun K hK => ?_)
      simp only [Act.put, List.foldl_cons, List.foldl_nil, List.setIfInBounds_toArray, List.set_cons_zero, List.set_cons_succ] at hK ⊢
      clear hj hf
      rw [e1] at hK ⊢
      clear e1
      go_simp
      exact hK _ _ (fun k v _ _ h => h.keep (Below.refl _ _)) (fun t ht => rfl) (hcm.keep8 hlt)
  · intro listed a w10 hr hj
    have hu : ∀ k, k < 9 → up listed k := fun k hk => all_up (by kernel_rfl) hj.lsize hr k hk
    obtain ⟨f, rfl, hcm, hf⟩ := hj.opened [9, 10, 11, 12, 13, 14, 15, 1] (by kernel_rfl)
    have e1 : f 1 = .string (bs s2) := hf 8 _ _ rfl rfl (hu 8 (by omega))
    obtain ⟨hfx, hv⟩ := hcm.2.1 (hu 7 (by omega))
    have HV := Lib.hid hv
    have HB : Hid (Below w.heap.size w w10) := HB0.out.trans (hfx.toBelow HB0.out.size (fun g e => by rw [e]; exact Nat.le_refl _))
    clear hf hj hr hu hfx hv hcm
    simp only [List.foldl_cons, List.foldl_nil, List.setIfInBounds_toArray, List.set_cons_zero, List.set_cons_succ]
    rw [e1]
    clear e1
    generalize f 9 = g9
    generalize f 10 = g10
    generalize f 11 = g11
    generalize f 12 = g12
    generalize f 13 = g13
    generalize f 14 = g14
    generalize f 15 = g15
    clear f
    obtain ⟨va, vb, hbx, h1, h2⟩ := HV.out
    obtain ⟨pX, mX, rfl, _, _⟩ := h1.shape
    obtain ⟨qX, nX, rfl, _, _⟩ := h2.shape
    have CX := Lib.hid hbx
    have FX := Lib.hid (IsF.at_ h1 h2)
    clear hbx h1 h2
    obtain ⟨R, hR⟩ : ∃ R, readF s2 = R := ⟨_, rfl⟩
    have HR := Lib.hid hR
    have hRe : (R.2 = 0 ∧ ValidF R.1 ∧ textX R.1 = bs s2) ∨ (R.2 ≠ 0) := by
      rw [← hR]; exact read_cases s2
    obtain ⟨Y, er⟩ := R
    simp only at hRe
    have HRE := Lib.hid hRe
    clear hR hRe
    by_cases hvx : ValidF X
    · have HVX := Lib.hid hvx
      obtain ⟨s', a', b', hXe, hok⟩ : ∃ s a b, X = fr s a b ∧ Ok s a b := ⟨_, _, _, hvx.eq, hvx.2.2⟩
      have HTX : Hid (textX X = bs (textL s' a' b')) := by show _ = _; rw [hXe, textX_fr hok]
      have HRX : Hid (readF (textL s' a' b') = (X, 0)) := by show _ = _; rw [readF_text hok, ← hXe]
      have hll : (textL s' a' b').length ≤ 1000000000 := textL_len hok
      clear hvx hXe hok
      obtain ⟨cX0, cX1, cX2⟩ := CX.out.cells3
      have ltX := CX.out.lt
      go_wp2_with fail
      refine (Valid_c _ _ X FX.out).mono ?_
      intro e w11 hr
      obtain ⟨rfl, hb11⟩ := hr.yes HVX.out
      clear hr
      clear cX0 cX1 cX2 ltX
      replace CX := Lib.hid (CX.out.after hb11)
      replace FX := Lib.hid (FX.out.after hb11)
      replace HB := Lib.hid (HB.out.trans (hb11.mono HB.out.size))
      clear hb11
      obtain ⟨cX0, cX1, cX2⟩ := CX.out.cells3
      have ltX := CX.out.lt
      go_wp2_with fail
      refine (Text_c _ _ X FX.out).mono ?_
      rw [HTX.out]
      rintro e w12 ⟨rfl, hb12⟩
      clear cX0 cX1 cX2 ltX
      replace CX := Lib.hid (CX.out.after hb12)
      replace FX := Lib.hid (FX.out.after hb12)
      replace HB := Lib.hid (HB.out.trans (hb12.mono HB.out.size))
      clear hb12
      obtain ⟨cX0, cX1, cX2⟩ := CX.out.cells3
      have ltX := CX.out.lt
      go_wp2_with fail
      refine (Read_c _ (textL s' a' b') hll).mono ?_
      rw [HRX.out]
      rintro e w13 ⟨v, rfl, hv, hb13⟩
      have hv : IsF _ v (X) := hv
      obtain ⟨va, vb, rfl, h1, h2⟩ := hv
      obtain ⟨pZ, mZ, rfl, _, _⟩ := h1.shape
      obtain ⟨qZ, nZ, rfl, _, _⟩ := h2.shape
      have FZ := Lib.hid (IsF.at_ h1 h2)
      clear h1 h2
      clear cX0 cX1 cX2 ltX
      replace CX := Lib.hid (CX.out.after hb13)
      replace FX := Lib.hid (FX.out.after hb13)
      replace HB := Lib.hid (HB.out.trans (hb13.mono HB.out.size))
      clear hb13
      have d_X_Z : w.heap.size < w13.heap.size := CX.out.lt
      have g_Z : w.heap.size ≤ w13.heap.size := by have := HB.out.size; omega
      obtain ⟨cX0, cX1, cX2⟩ := CX.out.cells3
      have ltX := CX.out.lt
      go_wp2_with fail
      refine (equal_c _ _ _ X (FZ.out.alloc _) (FX.out.alloc _)).mono ?_
      rintro e w14 ⟨rfl, hb14⟩
      clear cX0 cX1 cX2 ltX
      obtain ⟨hb14, CZ⟩ := after_new hb14
      replace CZ := Lib.hid CZ
      replace CX := Lib.hid (CX.out.after hb14)
      replace FX := Lib.hid (FX.out.after hb14)
      replace FZ := Lib.hid (FZ.out.after hb14)
      replace HB := Lib.hid (HB.out.trans (hb14.mono HB.out.size))
      clear hb14
      obtain ⟨cX0, cX1, cX2⟩ := CX.out.cells3
      have ltX := CX.out.lt
      obtain ⟨cZ0, cZ1, cZ2⟩ := CZ.out.cells3
      have ltZ := CZ.out.lt
      go_wp2_with fail
      refine (Read_c _ s2 hs2l).mono ?_
      rw [HR.out]
      rintro e w15 ⟨v, rfl, hv, hb15⟩
      have hv : IsF _ v (Y) := hv
      obtain ⟨va, vb, rfl, h1, h2⟩ := hv
      obtain ⟨pY, mY, rfl, _, _⟩ := h1.shape
      obtain ⟨qY, nY, rfl, _, _⟩ := h2.shape
      have FY := Lib.hid (IsF.at_ h1 h2)
      clear h1 h2
      clear cX0 cX1 cX2 ltX cZ0 cZ1 cZ2 ltZ
      replace CX := Lib.hid (CX.out.after hb15)
      replace CZ := Lib.hid (CZ.out.after hb15)
      replace FX := Lib.hid (FX.out.after hb15)
      replace FZ := Lib.hid (FZ.out.after hb15)
      replace HB := Lib.hid (HB.out.trans (hb15.mono HB.out.size))
      clear hb15
      have d_X_Y : w.heap.size < w15.heap.size := CX.out.lt
      have d_Z_Y : w13.heap.size < w15.heap.size := CZ.out.lt
      have g_Y : w.heap.size ≤ w15.heap.size := by have := HB.out.size; omega
      rcases HRE.out with ⟨rfl, hv1, ht1⟩ | hne
      · have HV1 := Lib.hid hv1
        have HT1 := Lib.hid ht1
        clear hv1 ht1
        obtain ⟨cX0, cX1, cX2⟩ := CX.out.cells3
        have ltX := CX.out.lt
        obtain ⟨cZ0, cZ1, cZ2⟩ := CZ.out.cells3
        have ltZ := CZ.out.lt
        go_wp2_with fail
        refine (Text_c _ _ Y (FY.out.alloc _)).mono ?_
        rw [HT1.out]
        rintro e w16 ⟨rfl, hb16⟩
        clear cX0 cX1 cX2 ltX cZ0 cZ1 cZ2 ltZ
        obtain ⟨hb16, CY⟩ := after_new hb16
        replace CY := Lib.hid CY
        replace CX := Lib.hid (CX.out.after hb16)
        replace CZ := Lib.hid (CZ.out.after hb16)
        replace FX := Lib.hid (FX.out.after hb16)
        replace FZ := Lib.hid (FZ.out.after hb16)
        replace FY := Lib.hid (FY.out.after hb16)
        replace HB := Lib.hid (HB.out.trans (hb16.mono HB.out.size))
        clear hb16
        obtain ⟨cX0, cX1, cX2⟩ := CX.out.cells3
        have ltX := CX.out.lt
        obtain ⟨cZ0, cZ1, cZ2⟩ := CZ.out.cells3
        have ltZ := CZ.out.lt
        obtain ⟨cY0, cY1, cY2⟩ := CY.out.cells3
        have ltY := CY.out.lt
        go_wp2_with fail
        refine (Valid_c _ _ Y FY.out).mono ?_
        intro e w17 hr
        obtain ⟨rfl, hb17⟩ := hr.yes HV1.out
        clear hr
        clear cX0 cX1 cX2 ltX cZ0 cZ1 cZ2 ltZ cY0 cY1 cY2 ltY
        replace CX := Lib.hid (CX.out.after hb17)
        replace CZ := Lib.hid (CZ.out.after hb17)
        replace CY := Lib.hid (CY.out.after hb17)
        replace FX := Lib.hid (FX.out.after hb17)
        replace FZ := Lib.hid (FZ.out.after hb17)
        replace FY := Lib.hid (FY.out.after hb17)
        replace HB := Lib.hid (HB.out.trans (hb17.mono HB.out.size))
        clear hb17
        obtain ⟨cX0, cX1, cX2⟩ := CX.out.cells3
        have ltX := CX.out.lt
        obtain ⟨cZ0, cZ1, cZ2⟩ := CZ.out.cells3
        have ltZ := CZ.out.lt
        obtain ⟨cY0, cY1, cY2⟩ := CY.out.cells3
        have ltY := CY.out.lt
        go_wp2_with fail
        refine (rworks_c _).mono ?_
        rintro e w18 ⟨rfl, hb18⟩
        clear cX0 cX1 cX2 ltX cZ0 cZ1 cZ2 ltZ cY0 cY1 cY2 ltY
        replace CX := Lib.hid (CX.out.after hb18)
        replace CZ := Lib.hid (CZ.out.after hb18)
        replace CY := Lib.hid (CY.out.after hb18)
        replace FX := Lib.hid (FX.out.after hb18)
        replace FZ := Lib.hid (FZ.out.after hb18)
        replace FY := Lib.hid (FY.out.after hb18)
        replace HB := Lib.hid (HB.out.trans (hb18.mono HB.out.size))
        clear hb18
        obtain ⟨cX0, cX1, cX2⟩ := CX.out.cells3
        have ltX := CX.out.lt
        obtain ⟨cZ0, cZ1, cZ2⟩ := CZ.out.cells3
        have ltZ := CZ.out.lt
        obtain ⟨cY0, cY1, cY2⟩ := CY.out.cells3
        have ltY := CY.out.lt
        go_wp2_with fail
        go_ret
        exact ⟨rfl, HB.out⟩
      · have hnb : (er == 0) = false := beq_eq_false_iff_ne.2 hne
        obtain ⟨cX0, cX1, cX2⟩ := CX.out.cells3
        have ltX := CX.out.lt
        obtain ⟨cZ0, cZ1, cZ2⟩ := CZ.out.cells3
        have ltZ := CZ.out.lt
        go_wp2_with fail
        refine (rworks_c _).mono ?_
        rintro e w16 ⟨rfl, hb16⟩
        clear cX0 cX1 cX2 ltX cZ0 cZ1 cZ2 ltZ
        obtain ⟨hb16, CY⟩ := after_new hb16
        replace CY := Lib.hid CY
        replace CX := Lib.hid (CX.out.after hb16)
        replace CZ := Lib.hid (CZ.out.after hb16)
        replace FX := Lib.hid (FX.out.after hb16)
        replace FZ := Lib.hid (FZ.out.after hb16)
        replace FY := Lib.hid (FY.out.after hb16)
        replace HB := Lib.hid (HB.out.trans (hb16.mono HB.out.size))
        clear hb16
        obtain ⟨cX0, cX1, cX2⟩ := CX.out.cells3
        have ltX := CX.out.lt
        obtain ⟨cZ0, cZ1, cZ2⟩ := CZ.out.cells3
        have ltZ := CZ.out.lt
        obtain ⟨cY0, cY1, cY2⟩ := CY.out.cells3
        have ltY := CY.out.lt
        go_wp2_with fail
        go_ret
        exact ⟨rfl, HB.out⟩
    · have HVX := Lib.hid hvx
      clear hvx
      obtain ⟨cX0, cX1, cX2⟩ := CX.out.cells3
      have ltX := CX.out.lt
      go_wp2_with fail
      refine (Valid_c _ _ X FX.out).mono ?_
      intro e w11 hr
      obtain ⟨rfl, hb11⟩ := hr.no HVX.out
      clear hr
      clear cX0 cX1 cX2 ltX
      replace CX := Lib.hid (CX.out.after hb11)
      replace FX := Lib.hid (FX.out.after hb11)
      replace HB := Lib.hid (HB.out.trans (hb11.mono HB.out.size))
      clear hb11
      obtain ⟨cX0, cX1, cX2⟩ := CX.out.cells3
      have ltX := CX.out.lt
      go_wp2_with fail
      refine (Read_c _ s2 hs2l).mono ?_
      rw [HR.out]
      rintro e w12 ⟨v, rfl, hv, hb12⟩
      have hv : IsF _ v (Y) := hv
      obtain ⟨va, vb, rfl, h1, h2⟩ := hv
      obtain ⟨pY, mY, rfl, _, _⟩ := h1.shape
      obtain ⟨qY, nY, rfl, _, _⟩ := h2.shape
      have FY := Lib.hid (IsF.at_ h1 h2)
      clear h1 h2
      clear cX0 cX1 cX2 ltX
      replace CX := Lib.hid (CX.out.after hb12)
      replace FX := Lib.hid (FX.out.after hb12)
      replace HB := Lib.hid (HB.out.trans (hb12.mono HB.out.size))
      clear hb12
      have d_X_Y : w.heap.size < w12.heap.size := CX.out.lt
      have g_Y : w.heap.size ≤ w12.heap.size := by have := HB.out.size; omega
      rcases HRE.out with ⟨rfl, hv1, ht1⟩ | hne
      · have HV1 := Lib.hid hv1
        have HT1 := Lib.hid ht1
        clear hv1 ht1
        obtain ⟨cX0, cX1, cX2⟩ := CX.out.cells3
        have ltX := CX.out.lt
        go_wp2_with fail
        refine (Text_c _ _ Y (FY.out.alloc _)).mono ?_
        rw [HT1.out]
        rintro e w13 ⟨rfl, hb13⟩
        clear cX0 cX1 cX2 ltX
        obtain ⟨hb13, CY⟩ := after_new hb13
        replace CY := Lib.hid CY
        replace CX := Lib.hid (CX.out.after hb13)
        replace FX := Lib.hid (FX.out.after hb13)
        replace FY := Lib.hid (FY.out.after hb13)
        replace HB := Lib.hid (HB.out.trans (hb13.mono HB.out.size))
        clear hb13
        obtain ⟨cX0, cX1, cX2⟩ := CX.out.cells3
        have ltX := CX.out.lt
        obtain ⟨cY0, cY1, cY2⟩ := CY.out.cells3
        have ltY := CY.out.lt
        go_wp2_with fail
        refine (Valid_c _ _ Y FY.out).mono ?_
        intro e w14 hr
        obtain ⟨rfl, hb14⟩ := hr.yes HV1.out
        clear hr
        clear cX0 cX1 cX2 ltX cY0 cY1 cY2 ltY
        replace CX := Lib.hid (CX.out.after hb14)
        replace CY := Lib.hid (CY.out.after hb14)
        replace FX := Lib.hid (FX.out.after hb14)
        replace FY := Lib.hid (FY.out.after hb14)
        replace HB := Lib.hid (HB.out.trans (hb14.mono HB.out.size))
        clear hb14
        obtain ⟨cX0, cX1, cX2⟩ := CX.out.cells3
        have ltX := CX.out.lt
        obtain ⟨cY0, cY1, cY2⟩ := CY.out.cells3
        have ltY := CY.out.lt
        go_wp2_with fail
        refine (rworks_c _).mono ?_
        rintro e w15 ⟨rfl, hb15⟩
        clear cX0 cX1 cX2 ltX cY0 cY1 cY2 ltY
        replace CX := Lib.hid (CX.out.after hb15)
        replace CY := Lib.hid (CY.out.after hb15)
        replace FX := Lib.hid (FX.out.after hb15)
        replace FY := Lib.hid (FY.out.after hb15)
        replace HB := Lib.hid (HB.out.trans (hb15.mono HB.out.size))
        clear hb15
        obtain ⟨cX0, cX1, cX2⟩ := CX.out.cells3
        have ltX := CX.out.lt
        obtain ⟨cY0, cY1, cY2⟩ := CY.out.cells3
        have ltY := CY.out.lt
        go_wp2_with fail
        go_ret
        exact ⟨rfl, HB.out⟩
      · have hnb : (er == 0) = false := beq_eq_false_iff_ne.2 hne
        obtain ⟨cX0, cX1, cX2⟩ := CX.out.cells3
        have ltX := CX.out.lt
        go_wp2_with fail
        refine (rworks_c _).mono ?_
        rintro e w13 ⟨rfl, hb13⟩
        clear cX0 cX1 cX2 ltX
        obtain ⟨hb13, CY⟩ := after_new hb13
        replace CY := Lib.hid CY
        replace CX := Lib.hid (CX.out.after hb13)
        replace FX := Lib.hid (FX.out.after hb13)
        replace FY := Lib.hid (FY.out.after hb13)
        replace HB := Lib.hid (HB.out.trans (hb13.mono HB.out.size))
        clear hb13
        obtain ⟨cX0, cX1, cX2⟩ := CX.out.cells3
        have ltX := CX.out.lt
        obtain ⟨cY0, cY1, cY2⟩ := CY.out.cells3
        have ltY := CY.out.lt
        go_wp2_with fail
        go_ret
        exact ⟨rfl, HB.out⟩
end Go.Proofs.Ytaojdlcailpheaa
