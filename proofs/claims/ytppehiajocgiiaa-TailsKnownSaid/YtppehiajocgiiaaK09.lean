/- Walks of package tails: rate, checked.
   Walks of package tails: powers.
   Memory words, more: variables that hold slices; stores into them leave fractions. -/
import Derived.Test.YtppehiajocgiiaaK08
import Derived.Deep.AppendLies
set_option linter.unusedVariables false
namespace Go.Proofs.Ytppehiajocgiiaa
open Go.RowKit

/-- The error of a rate. -/
noncomputable def rateE (x : F) : Int := open Classical in if fracE x = 0 then (if 1000 < val x.den then 2 else 0) else fracE x
theorem rateE_bad {x : F} (h : fracE x ≠ 0) : rateE x = fracE x := by unfold rateE; rw [if_neg h]
theorem rateE_good {x : F} (h : fracE x = 0) : rateE x = if 1000 < val x.den then 2 else 0 := by unfold rateE; rw [if_pos h]
theorem fracE_zero {x : F} (h : fracE x = 0) : ValidF x ∧ x.neg = false ∧ val x.num ≤ val x.den := by
  by_cases hv : ValidF x
  · rw [fracE_yes hv] at h
    by_cases hc : x.neg = true ∨ val x.den < val x.num
    · rw [if_pos hc] at h; omega
    · refine ⟨hv, ?_, ?_⟩
      · cases hx : x.neg
        · rfl
        · exact absurd (.inl hx) hc
      · rcases Nat.lt_or_ge (val x.den) (val x.num) with h1 | h1
        · exact absurd (.inr h1) hc
        · exact h1
  · rw [fracE_no hv] at h; omega
theorem fracE_cases (x : F) : fracE x = 0 ∨ fracE x = 1 ∨ fracE x = 2 := by
  by_cases hv : ValidF x
  · rw [fracE_yes hv]; split
    · exact .inr (.inr rfl)
    · exact .inl rfl
  · rw [fracE_no hv]; exact .inr (.inl rfl)

set_option maxRecDepth 100000 in
set_option maxHeartbeats 1000000 in
theorem rate_c (w : World) (v : Value) (x : F) (h : IsF w v x) : Calls Try.prog 67 #[v] w (RetE w (rateE x)) := by
  have HX := h
  obtain ⟨va, vb, rfl, h1, h2⟩ := h
  obtain ⟨W0, hW, bx, hsz, hb0⟩ := start1 w #[.bool x.neg, va, vb] 25
  obtain ⟨c0, c1, c2⟩ := bx.cells3
  obtain ⟨p, cp, rfl, _, _⟩ := h1.shape
  have H1 := Lib.hid (HX.after hb0)
  have H2 := Lib.hid (h2.after hb0)
  have HB0 := Lib.hid hb0
  have BX := Lib.hid bx
  clear HX bx hb0 h1
  by_cases hf : fracE x = 0
  · have hv := (fracE_zero hf).1
    have hpos := hv.2.2.pos
    have hcan := hv.2.1
    have hs := Lib.hid (rateE_good hf)
    have hlp : 0 < x.den.length := by
      unfold Canon at hcan
      rw [hcan]
      exact limbs_len_pos hpos
    obtain ⟨h0, a, cap, rfl, k2, k3, k5, k6⟩ := h2
    obtain ⟨b, off, rfl, hbl, hc⟩ := k6 hlp
    have hc0 := hc 0 hlp
    rw [Nat.add_zero] at hc0
    have hd0 := keep_cell HB0.out hc0
    have hlim : Hid (x.den.length = 1 → lim x.den 0 = val x.den) := by
      intro hl
      obtain ⟨d, hd⟩ := List.length_eq_one_iff.1 hl
      rw [hd]; simp [lim, val]
    have hbig : Hid (1 < x.den.length → 1000 < val x.den) := by
      intro hl
      unfold Canon at hcan
      rcases Nat.lt_or_ge 1000 (val x.den) with h | h
      · exact h
      · have := limbs_len_lt (n := val x.den) (k := 1) (by omega)
        rw [← hcan] at this
        omega
    have HF := Lib.hid hf
    clear hf hv hpos hcan k5 k6 hc hc0
    by_cases hl : 1 < x.den.length
    · have hs2 : Hid (rateE x = 2) := by show _ = _; rw [hs.out, if_pos (hbig.out hl)]
      go_enter Try.func67, Try.ntmps67
      go_upto_region 1 with fail
      rw [← hW]
      clear hW
      go_wp2_with fail
      refine (fraction_c _ _ _ H1.out).mono ?_
      rw [HF.out]
      rintro e w1 ⟨rfl, hb1⟩
      obtain ⟨c0', c1', c2'⟩ := (BX.out.after hb1).cells3
      have e0 := keep_cell hb1 hd0
      have KW := Lib.hid (HB0.out.trans (hb1.mono HB0.out.size))
      clear hb1 c0 c1 c2 hd0 H1
      go_wp2_with fail
      go_ret
      exact ⟨ret_int (by rw [hs2.out]), KW.out⟩
    · have hl1 : x.den.length = 1 := by omega
      have hlv := hlim.out hl1
      have HL := Lib.hid hl1
      obtain ⟨d, hd⟩ : ∃ d, lim x.den 0 = d := ⟨_, rfl⟩
      rw [hd] at hlv hd0
      have hdb : d < 4294967296 := by rw [← hd]; exact h0.getD 0
      clear hl1 hd
      by_cases hd1 : 1000 < d
      · have hs2 : Hid (rateE x = 2) := by show _ = _; rw [hs.out, if_pos (by omega)]
        clear hlv
        go_enter Try.func67, Try.ntmps67
        go_upto_region 1 with fail
        rw [← hW]
        clear hW
        go_wp2_with fail
        refine (fraction_c _ _ _ H1.out).mono ?_
        rw [HF.out]
        rintro e w1 ⟨rfl, hb1⟩
        obtain ⟨c0', c1', c2'⟩ := (BX.out.after hb1).cells3
        have e0 := keep_cell hb1 hd0
        have KW := Lib.hid (HB0.out.trans (hb1.mono HB0.out.size))
        clear hb1 c0 c1 c2 hd0 H1
        go_wp2_with fail
        go_ret
        exact ⟨ret_int (by rw [hs2.out]), KW.out⟩
      · have hs2 : Hid (rateE x = 0) := by show _ = _; rw [hs.out, if_neg (by omega)]
        clear hlv
        go_enter Try.func67, Try.ntmps67
        go_upto_region 1 with fail
        rw [← hW]
        clear hW
        go_wp2_with fail
        refine (fraction_c _ _ _ H1.out).mono ?_
        rw [HF.out]
        rintro e w1 ⟨rfl, hb1⟩
        obtain ⟨c0', c1', c2'⟩ := (BX.out.after hb1).cells3
        have e0 := keep_cell hb1 hd0
        have KW := Lib.hid (HB0.out.trans (hb1.mono HB0.out.size))
        clear hb1 c0 c1 c2 hd0 H1
        go_wp2_with fail
        go_ret
        exact ⟨ret_int (by rw [hs2.out]), KW.out⟩
  · have hs := Lib.hid (rateE_bad hf)
    have hcs := fracE_cases x
    obtain ⟨r, hr⟩ : ∃ r, fracE x = r := ⟨_, rfl⟩
    rw [hr] at hf hcs hs
    have HR := Lib.hid hr
    have hrp : 0 < r := by omega
    have hrq : r ≤ 2 := by omega
    clear hr hcs hf
    go_enter Try.func67, Try.ntmps67
    go_upto_region 1 with fail
    rw [← hW]
    clear hW
    go_wp2_with fail
    refine (fraction_c _ _ _ H1.out).mono ?_
    rw [HR.out]
    rintro e w1 ⟨rfl, hb1⟩
    have KW := Lib.hid (HB0.out.trans (hb1.mono HB0.out.size))
    clear hb1 c0 c1 c2 H1
    go_wp2_with fail
    go_ret
    exact ⟨ret_int (by rw [hs.out]), KW.out⟩

/-- The error of a rate and numbers. -/
noncomputable def checkE (x : F) (good : Bool) : Int := if rateE x = 0 then (if good = true then 0 else 2) else rateE x
theorem rateE_cases (x : F) : rateE x = 0 ∨ rateE x = 1 ∨ rateE x = 2 := by
  by_cases h : fracE x = 0
  · rw [rateE_good h]; split
    · exact .inr (.inr rfl)
    · exact .inl rfl
  · rw [rateE_bad h]; exact fracE_cases x

set_option maxRecDepth 100000 in
set_option maxHeartbeats 1000000 in
theorem checked_c (w : World) (v : Value) (x : F) (good : Bool) (h : IsF w v x) : Calls Try.prog 40 #[v, .bool good] w (RetE w (checkE x good)) := by
  have HX := h
  obtain ⟨va, vb, rfl, h1, h2⟩ := h
  obtain ⟨W0, hW, bx, hsz, hb0⟩ := start1 w #[.bool x.neg, va, vb] 25
  obtain ⟨c0, c1, c2⟩ := bx.cells3
  have H1 := Lib.hid (HX.after hb0)
  have HB0 := Lib.hid hb0
  clear HX bx hb0 h1 h2
  by_cases hf : rateE x = 0
  · have HF := Lib.hid hf
    clear hf
    cases good with
    | true =>
      have hs : Hid (checkE x true = 0) := by show _ = _; unfold checkE; rw [if_pos HF.out]; rfl
      go_enter Try.func40, Try.ntmps40
      go_upto_region 1 with fail
      rw [← hW]
      clear hW
      go_wp2_with fail
      refine (rate_c _ _ _ H1.out).mono ?_
      rw [HF.out]
      rintro e w1 ⟨rfl, hb1⟩
      have KW := Lib.hid (HB0.out.trans (hb1.mono HB0.out.size))
      clear hb1 c0 c1 c2 H1
      go_wp2_with fail
      go_ret
      exact ⟨ret_int (by rw [hs.out]), KW.out⟩
    | false =>
      have hs : Hid (checkE x false = 2) := by show _ = _; unfold checkE; rw [if_pos HF.out]; rfl
      go_enter Try.func40, Try.ntmps40
      go_upto_region 1 with fail
      rw [← hW]
      clear hW
      go_wp2_with fail
      refine (rate_c _ _ _ H1.out).mono ?_
      rw [HF.out]
      rintro e w1 ⟨rfl, hb1⟩
      have KW := Lib.hid (HB0.out.trans (hb1.mono HB0.out.size))
      clear hb1 c0 c1 c2 H1
      go_wp2_with fail
      go_ret
      exact ⟨ret_int (by rw [hs.out]), KW.out⟩
  · have hs : Hid (checkE x good = rateE x) := by show _ = _; unfold checkE; rw [if_neg hf]
    have hcs := rateE_cases x
    obtain ⟨r, hr⟩ : ∃ r, rateE x = r := ⟨_, rfl⟩
    rw [hr] at hf hcs hs
    have HR := Lib.hid hr
    have hrp : 0 < r := by omega
    have hrq : r ≤ 2 := by omega
    clear hr hcs hf
    go_enter Try.func40, Try.ntmps40
    go_upto_region 1 with fail
    rw [← hW]
    clear hW
    go_wp2_with fail
    refine (rate_c _ _ _ H1.out).mono ?_
    rw [HR.out]
    rintro e w1 ⟨rfl, hb1⟩
    have KW := Lib.hid (HB0.out.trans (hb1.mono HB0.out.size))
    clear hb1 c0 c1 c2 H1
    go_wp2_with fail
    go_ret
    exact ⟨ret_int (by rw [hs.out]), KW.out⟩
end Go.Proofs.Ytppehiajocgiiaa

namespace Go.Proofs.Ytppehiajocgiiaa
open Go.RowKit

theorem infoF : (Try.prog.info? 25).map (fun i => (i.zero, i.size, i.bytes)) = some (some (.agg #[.bool false, .slice none 0 0, .slice none 0 0]), 3, 56) := by kernel_rfl
theorem own_shape {w : World} {base n size : Nat} {t : TypeId} {v : Value} {xs : List Value} (h : w.ownsRow base t size v (n + 1) xs) : ∃ g cap, v = .slice (some ⟨g, 0, none⟩) (n + 1) cap := by
  rcases h.2 with ⟨_, h0⟩ | ⟨g, cap, _, rfl, _⟩
  · omega
  · exact ⟨g, cap, rfl⟩
theorem SlF.has {w : World} {g n cap : Nat} {xs : List F} (h : SlF w (.slice (some ⟨g, 0, none⟩) n cap) xs) {i : Nat} {x : F} (hx : xs[i]? = some x) : HasF w g (i * 3) x := by
  obtain ⟨b, cap', e, _, _, h4⟩ := h
  obtain ⟨rfl, _, _⟩ : g = b ∧ n = xs.length ∧ cap = cap' := by simpa using e
  exact h4 i x hx
theorem Box.grown {w w' : World} {b : Nat} {cs : Array Value} {t : TypeId} {row : Option Nat} (h : Box w b cs t) (hg : w.grownBy w' row) (hr : some b ≠ row) : Box w' b cs t := (hg.block b h.lt hr).trans h
theorem IsF.grown {w w' : World} {v : Value} {x : F} {row : Option Nat} (h : IsF w v x) (hg : w.grownBy w' row) (hr : ∀ g, row = some g → ¬ Tag32 w g) : IsF w' v x := by
  obtain ⟨va, vb, rfl, h1, h2⟩ := h
  exact ⟨va, vb, rfl, h1.grown hg hr, h2.grown hg hr⟩
/-- The powers 0 to n of a number. -/
def pows (a n : Nat) : List F := (List.range (n + 1)).map fun i => Wh (a ^ i)
theorem pows_len (a n : Nat) : (pows a n).length = n + 1 := by unfold pows; simp
theorem pows_get {a n i : Nat} (h : i ≤ n) : (pows a n)[i]? = some (Wh (a ^ i)) := by
  unfold pows
  rw [List.getElem?_map, List.getElem?_range (by omega)]; rfl
theorem pows_succ (a n : Nat) : pows a (n + 1) = pows a n ++ [Wh (a ^ (n + 1))] := by
  unfold pows
  rw [List.range_succ (n := n + 1), List.map_append]; rfl

set_option maxRecDepth 100000 in
set_option maxHeartbeats 4000000 in
theorem powers_t (w : World) (v : Value) (a n : Nat) (h : IsF w v (Wh a)) (hn : n ≤ 64) (ha : (limbs a).length ≤ 32) (hp : ∀ i, i ≤ n → (limbs (a ^ i)).length ≤ 32) :
    Calls Try.prog 68 #[v, .int .i64 (n : Int)] w fun e w' => ∃ u, e = .returned u ∧ SlF w' u (pows a n) ∧ Below w.heap.size w w' := by
  have HX := h
  obtain ⟨va, vb, rfl, h1, h2⟩ := h
  obtain ⟨W0, hW, bx, hsz, hb0⟩ : ∃ W0, W0 = w.alloc (.cells #[.bool (Wh a).neg, va, vb] 25) ∧ Box W0 w.heap.size #[.bool (Wh a).neg, va, vb] 25 ∧ w.heap.size < W0.heap.size ∧ Below w.heap.size w W0 :=
    ⟨_, rfl, Box.new w _ _, by simp, (Below.refl _ w).alloc (Nat.le_refl _) _⟩
  obtain ⟨p, cp, rfl, _, _⟩ := h1.shape
  obtain ⟨q, cq, rfl, _, _⟩ := h2.shape
  obtain ⟨i0, hi, hz0, hz1, hz2⟩ := info_parts infoF
  have hlm : Hid (maxLen = 9223372036854775807) := rfl
  have H1 := Lib.hid (HX.after hb0)
  have HB0 := Lib.hid hb0
  have BX := Lib.hid bx
  have HP := Lib.hid hp
  clear HX bx hb0 h1 h2 hp
  go_enter Try.func68, Try.ntmps68
  go_upto_region 1 with fail
  rw [← hW]
  clear hW
  go_wp2_with fail
  refine (whole_c _ 1 (by omega)).mono ?_
  rintro e w1 ⟨v1, rfl, hv1, hb1⟩
  obtain ⟨vc, vd, rfl, h3, h4⟩ := hv1
  obtain ⟨pc, cc, rfl, _, _⟩ := h3.shape
  obtain ⟨pd, cd, rfl, _, _⟩ := h4.shape
  have HB1 := Lib.hid (HB0.out.trans (hb1.mono HB0.out.size))
  have BX1 := Lib.hid (BX.out.after hb1)
  have H1' := Lib.hid (H1.out.after hb1)
  have hb3 := (Below.refl w1.heap.size w1).alloc (Nat.le_refl _) (.cells #[.bool (Wh 1).neg, .slice pc (Wh 1).num.length cc, .slice pd (Wh 1).den.length cd] 25)
  have hE : Hid (Ents (w1.alloc (.cells #[.bool (Wh 1).neg, .slice pc (Wh 1).num.length cc, .slice pd (Wh 1).den.length cd] 25)) [((Wh 1).neg, .slice pc (Wh 1).num.length cc, .slice pd (Wh 1).den.length cd)] (pows a 0)) := by
    have := Ents.snoc (x := Wh 1) (es := []) (xs := []) (w := w1) ⟨rfl, fun i x h => by simp at h⟩ h3 h4
    exact this.after hb3
  have hO := Lib.hid (ownsRow_one w1 (base := w.heap.size + 1) 25 (by have := HB1.out.size; have := hb1.size; omega) (.bool (Wh 1).neg) (.slice pc (Wh 1).num.length cc) (.slice pd (Wh 1).den.length cd))
  have hW1 : Below w.heap.size w (w1.alloc (.cells #[.bool (Wh 1).neg, .slice pc (Wh 1).num.length cc, .slice pd (Wh 1).den.length cd] 25)) := HB1.out.trans (hb3.mono HB1.out.size)
  have HW1 := Lib.hid hW1
  have hszw : w.heap.size + 1 ≤ w1.heap.size := by have := hb1.size; omega
  have BX2 := Lib.hid (BX1.out.alloc (.cells #[.bool (Wh 1).neg, .slice pc (Wh 1).num.length cc, .slice pd (Wh 1).den.length cd] 25))
  have H2' := Lib.hid (H1'.out.alloc (.cells #[.bool (Wh 1).neg, .slice pc (Wh 1).num.length cc, .slice pd (Wh 1).den.length cd] 25))
  clear HB1 BX1 H1' hb1 h3 h4 hb3 H1 HB0 BX hW1
  go_wp2_with fail
  go_loopg [5, 9] n (fun g o t wx => ∃ (i : Nat) (es : List (Bool × Value × Value)), i ≤ n ∧ g = n - i ∧ t = .int .i64 (i : Int) ∧ wx.ownsRow (w.heap.size + 1) 25 3 o (i + 1) (cellsF es) ∧ Hid (Ents wx es (pows a i)) ∧
    Hid (Box wx w.heap.size #[.bool (Wh a).neg, .slice p (Wh a).num.length cp, .slice q (Wh a).den.length cq] 25) ∧ Hid (IsF wx (.agg #[.bool (Wh a).neg, .slice p (Wh a).num.length cp, .slice q (Wh a).den.length cq]) (Wh a)) ∧ Hid (Below w.heap.size w wx) ∧ w.heap.size + 1 ≤ wx.heap.size)
  case atStart => exact ⟨0, [((Wh 1).neg, .slice pc (Wh 1).num.length cc, .slice pd (Wh 1).den.length cd)], Nat.zero_le _, rfl, rfl, hO.out, hE.out, BX2.out, H2'.out, HW1.out, by simp; omega⟩
  case round =>
    obtain ⟨i, es, hile, rfl, rfl, hown, hE', hbx, hx, hbl, hsz2⟩ := hrel
    obtain ⟨g, cap, rfl⟩ := own_shape hown
    clear hE hO HW1 BX2 H2'
    by_cases hlt : i < n
    · obtain ⟨vg, vh, g0, g1, g2, hs1, hs2⟩ := (SlF.of_own hown hE'.out (by rw [pows_len]; omega)).has (pows_get (Nat.le_refl i))
      obtain ⟨pg, cg, rfl, _, _⟩ := hs1.shape
      obtain ⟨ph, ch', rfl, _, _⟩ := hs2.shape
      obtain ⟨x0, x1, x2⟩ := hbx.out.cells3
      have hgl := hown.lt g rfl
      have hsum : IntKind.i64.wrap (((i : Int) + 1) - 1) = (i : Int) := by rw [wrap_in (by omega) (by omega)]; omega
      have hsum0 : IntKind.i64.wrap (i : Int) = (i : Int) := wrap_in (by omega) (by omega)
      have hi0' : (0 : Int) ≤ (i : Int) := Int.natCast_nonneg _
      have hi1' : (i : Int) < (i : Int) + 1 := by omega
      have HO := Lib.hid hown
      have hl1 : Hid ((limbs (a ^ i)).length ≤ 32) := HP.out i hile
      have hl2 : Hid ((limbs (a ^ i * a)).length ≤ 32) := by show _ ≤ _; rw [← Nat.pow_succ]; exact HP.out (i + 1) hlt
      have hS1 := Lib.hid hs1
      have hS2 := Lib.hid hs2
      clear hown hs1 hs2
      go_upto_region 2 with fail

      go_region_law
        (first
         | (refine step_append_lies _ (by rfl) _ _ _ (by rfl) (w.heap.size + 1) 25 i0 _ 3 56 Try.underlying55 hi hz0 hz1 hz2 rfl (by omega) (.slice (some ⟨g, 0, none⟩) (i + 1) cap) (i + 1) (cellsF es) (by rfl) (ownsRow_after HO.out hbB) ⟨w3.heap.size, 0, none⟩ 1 1 [.bool (Wh (a ^ i * a)).neg, .slice pe (Wh (a ^ i * a)).num.length ce, .slice pf (Wh (a ^ i * a)).den.length cf] (by rfl) (by rfl) (World.news_of_block (cs := #[.bool (Wh (a ^ i * a)).neg, .slice pe (Wh (a ^ i * a)).num.length ce, .slice pf (Wh (a ^ i * a)).den.length cf]) (t := 25) (fr := (0, 0)) (heap_alloc_new w3 _)) (by simp [Value.oneCell']) (by omega) (by rw [hlm.out]; omega) (by omega) (by have := hbA.size; simp; omega) (w3.heap.size + 1) (by simp) ?_; intro gg cap2 w5 hown5 hgrow hat hlt5; have hne : some w.heap.size ≠ (Value.slice (some ⟨g, 0, none⟩) (i + 1) cap).ownBlock := fun e => by have := congrArg (Option.getD · 0) e; simp [Value.ownBlock] at this; omega)
         | (go_simp; go_at_call 65; refine (times2_t _ _ (a ^ i) a ?_ hl1.out ha hl2.out).mono ?_; exact SlF.two wr (x := Wh (a ^ i)) (y := Wh a) ⟨_, _, rfl, hS1.out, hS2.out⟩ hx.out rfl _; rintro e w3 ⟨v3, rfl, hv3, hb3⟩; obtain ⟨ve, vf, rfl, h5, h6⟩ := hv3; obtain ⟨pe, ce, rfl, _, _⟩ := h5.shape; obtain ⟨pf, cf, rfl, _, _⟩ := h6.shape; have hbA := ((Below.refl wr.heap.size wr).alloc (Nat.le_refl _) _).trans ((below_of_drew hb3).mono (by simp)); have hbB := hbA.alloc hbA.size (.cells #[.bool (Wh (a ^ i * a)).neg, .slice pe (Wh (a ^ i * a)).num.length ce, .slice pf (Wh (a ^ i * a)).den.length cf] 25)))
      all_goals
        (have htag := ownsRow_tag (ownsRow_after HO.out hbB) (show 25 ≠ 49 by decide)
         have hE5 := Lib.hid (((hE'.out.after hbB).grown hgrow htag).snoc (x := Wh (a ^ i * a)) ((h5.alloc _).grown hgrow htag) ((h6.alloc _).grown hgrow htag))
         have hB5 := Lib.hid ((hbx.out.after hbB).grown hgrow hne)
         have hI5 := Lib.hid ((hx.out.after hbB).grown hgrow htag)
         have hW5 : Hid (Below w.heap.size w w5) := (hbl.out.trans (hbB.mono hbl.out.size)).grown hgrow (by have := hbl.out.size; have := hbB.size; omega) (fun k hk => by have := (HO.out.lt k hk).1; omega)
         have hO5 : Hid (w5.ownsRow (w.heap.size + 1) 25 3 (.slice (some ⟨gg, 0, none⟩) (i + 1 + 1) cap2) (i + 1 + 1) (cellsF (es ++ [((Wh (a ^ i * a)).neg, .slice pe (Wh (a ^ i * a)).num.length ce, .slice pf (Wh (a ^ i * a)).den.length cf)]))) := by
           show w5.ownsRow _ _ _ _ _ _
           rw [cellsF_snoc]
           exact hown5
         have hsz5 : w.heap.size + 1 ≤ w5.heap.size := by have := hbB.size; have := hgrow.size; omega
         have hpe : Hid (pows a i ++ [Wh (a ^ i * a)] = pows a (i + 1)) := by show _ = _; rw [pows_succ, Nat.pow_succ]
         clear hown5 hgrow hat hbA hbB hb3 h5 h6 htag g0 g1 g2 x0 x1 x2 hne
         go_wp2_with fail
         go_roundg (n - (i + 1))
         case measure => omega
         case rel => exact ⟨i + 1, _, hlt, rfl, by go_num, hO5.out, hpe.out ▸ hE5.out, hB5.out, hI5.out, hW5.out, hsz5⟩)
    · obtain rfl : i = n := by omega
      have hfin := Lib.hid (SlF.of_own hown hE'.out (by rw [pows_len]; omega))
      have hbl' := Lib.hid hbl.out
      clear hown hE'
      go_wp2_with fail
      go_ret
      exact ⟨_, rfl, hfin.out, hbl'.out⟩
end Go.Proofs.Ytppehiajocgiiaa

namespace Go.Proofs.Ytppehiajocgiiaa
open Go.RowKit

theorem below_dr {B : Nat} {w w' : World} (h : Below B w w') : Below B w w'.drew := ⟨h.os, h.tape, h.output, h.size, h.block⟩
theorem Sl.drew {w : World} {v : Value} {l : List Nat} (h : Sl w v l) : Sl w.drew v l := h.after (below_dr (Below.refl _ w))
theorem SlF.drew {w : World} {v : Value} {xs : List F} (h : SlF w v xs) : SlF w.drew v xs := h.after (below_dr (Below.refl _ w))
theorem held_alloc {W w : World} {o : Obj} (h : Below W.heap.size W w) : Below W.heap.size W (w.alloc o) := h.alloc h.size o
theorem held_set {W w : World} {p : Addr} {v : Value} (h : Below W.heap.size W w) (hp : W.heap.size ≤ p.block) : Below W.heap.size W (w.setCell p v) := h.setCell hp v
theorem Tag32.set {w : World} {b : Nat} (h : Tag32 w b) (g i : Nat) (v : Value) : Tag32 (w.setCell ⟨g, i, none⟩ v) b := by
  obtain ⟨cs, fz, h⟩ := h
  by_cases hb : b = g
  · subst hb
    exact ⟨cs.setIfInBounds i v, fz, by simp [World.setCell, Array.getElem?_modify, h]⟩
  · exact ⟨cs, fz, (Below.heap_setCell w ⟨g, i, none⟩ v b hb).trans h⟩
/-- A store into a cell that holds no limb leaves what a slice of limbs reads. -/
theorem Sl.setN {w : World} {v : Value} {l : List Nat} {b i : Nat} {u0 : Value} (h : Sl w v l) (hc : w.cell? ⟨b, i, none⟩ = some u0) (hn : ∀ x, u0 ≠ .int .u32 x) (u : Value) : Sl (w.setCell ⟨b, i, none⟩ u) v l := by
  obtain ⟨h0, a, cap, h1, h2, h3, h5, h6⟩ := h
  refine ⟨h0, a, cap, h1, h2, h3, ⟨h5.1, fun hl b' off ha => (h5.2 hl b' off ha).set _ _ _⟩, fun hl => ?_⟩
  obtain ⟨b', off, ha, hlt, hcs⟩ := h6 hl
  refine ⟨b', off, ha, by simpa [World.setCell] using hlt, fun j hj => ?_⟩
  rw [← hcs j hj]
  refine World.cell?_setCell_other w ⟨b, i, none⟩ ⟨b', off + j, none⟩ u (fun e => ?_)
  have e1 := hcs j hj
  rw [← e, hc] at e1
  injection e1 with e1
  exact hn _ e1
theorem IsF.setN {w : World} {v : Value} {x : F} {b i : Nat} {u0 : Value} (h : IsF w v x) (hc : w.cell? ⟨b, i, none⟩ = some u0) (hn : ∀ x, u0 ≠ .int .u32 x) (u : Value) : IsF (w.setCell ⟨b, i, none⟩ u) v x := by
  obtain ⟨va, vb, e, h1, h2⟩ := h
  exact ⟨va, vb, e, h1.setN hc hn u, h2.setN hc hn u⟩
/-- A store into a variable of slices leaves a row of fractions. -/
theorem SlF.setS {w : World} {v : Value} {xs : List F} {b : Nat} {p : Option Addr} {n c : Nat} (h : SlF w v xs) (hc : w.cell? ⟨b, 0, none⟩ = some (.slice p n c)) (u : Value) : SlF (w.setCell ⟨b, 0, none⟩ u) v xs := by
  obtain ⟨g, cap, h1, h2, h3, h4⟩ := h
  refine ⟨g, cap, h1, h2, h3, fun i x hx => ?_⟩
  have hne : g ≠ b := by
    rintro rfl
    have hl : 0 < xs.length := by
      rcases Nat.lt_or_ge i xs.length with hi | hi
      · omega
      · rw [List.getElem?_eq_none hi] at hx; cases hx
    obtain ⟨va, vb, e0, _⟩ := h4 0 xs[0] (List.getElem?_eq_getElem hl)
    rw [Nat.zero_mul, hc] at e0
    injection e0 with e0
    cases e0
  obtain ⟨va, vb, e0, e1, e2, e3, e4⟩ := h4 i x hx
  have k : ∀ j, (w.setCell ⟨b, 0, none⟩ u).cell? ⟨g, j, none⟩ = w.cell? ⟨g, j, none⟩ := fun j => World.cell?_setCell_other w ⟨b, 0, none⟩ ⟨g, j, none⟩ u (fun e => hne (by injection e with e1; exact e1.symm))
  exact ⟨va, vb, (k _).trans e0, (k _).trans e1, (k _).trans e2, e3.setN hc (fun _ h => by cases h) u, e4.setN hc (fun _ h => by cases h) u⟩
theorem SlF.alloc {w : World} {v : Value} {xs : List F} (h : SlF w v xs) (o : Obj) : SlF (w.alloc o) v xs := h.after ((Below.refl _ w).alloc (Nat.le_refl _) o)
theorem powers_h (w W2 : World) (v : Value) (a n : Nat) (hS : Below W2.heap.size W2 w) (h : IsF W2 v (Wh a)) (hn : n ≤ 64) (ha : (limbs a).length ≤ 32) (hp : ∀ i, i ≤ n → (limbs (a ^ i)).length ≤ 32) :
    Calls Try.prog 68 #[v, .int .i64 (n : Int)] w fun e w' => ∃ u, e = .returned u ∧ SlF w' u (pows a n) ∧ Below W2.heap.size W2 w' ∧ Below w.heap.size w w' := by
  refine (powers_t w v a n (h.after hS) hn ha hp).mono ?_
  rintro e w' ⟨u, rfl, h1, h2⟩
  exact ⟨u, rfl, h1, hS.trans (h2.mono hS.size), h2⟩

/-- A variable that holds a fraction. -/
def VarF (w : World) (b : Nat) (x : F) : Prop := ∃ va vb, Box w b #[.bool x.neg, va, vb] 25 ∧ Sl w va x.num ∧ Sl w vb x.den
theorem VarF.after {w w' : World} {b : Nat} {x : F} (h : VarF w b x) (hb : Below w.heap.size w w') : VarF w' b x := by
  obtain ⟨va, vb, h1, h2, h3⟩ := h
  exact ⟨va, vb, h1.after hb, h2.after hb, h3.after hb⟩
theorem VarF.lt {w : World} {b : Nat} {x : F} (h : VarF w b x) : b < w.heap.size := by obtain ⟨_, _, h1, _⟩ := h; exact h1.lt
theorem VarF.drew {w : World} {b : Nat} {x : F} (h : VarF w b x) : VarF w.drew b x := h.after (below_dr (Below.refl _ w))
/-- A variable whose denominator is a literal 1. -/
theorem VarF.lit {w : World} {N s : Nat} {a : Nat} {va : Value} {r : Bool} (hA : Sl w va (limbs a)) (hr : r = false) (hb : w.heap[N]? = some (.cells #[.bool r, va, .slice (some ⟨s, 0, none⟩) 1 1] 25 (0, 0))) (hs : w.heap[s]? = some (.cells #[.int .u32 1] 49 (0, 0))) : VarF w N (Wh a) := by
  subst hr
  refine ⟨va, _, hb, hA, ?_⟩
  show Sl _ _ (limbs 1)
  rw [limbs_one]
  exact Sl.of_row (l := [1]) hs (Lb.cons (by omega) Lb.nil) (by simp) (by omega)
end Go.Proofs.Ytppehiajocgiiaa
