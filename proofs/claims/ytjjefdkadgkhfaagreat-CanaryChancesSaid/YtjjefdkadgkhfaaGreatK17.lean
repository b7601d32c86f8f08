/- Walks of the reference's tails: choose.
   Walks of the reference's tails: Choose, numerator, tail.
   Walks of the reference's tails: Exactly, Tail.
   Walks of the reference's tails: above, Critical. -/
import Derived.Test.YtjjefdkadgkhfaaGreatK11
import Derived.Test.YtjjefdkadgkhfaaGreatK02
import Derived.Test.YtjjefdkadgkhfaaGreatK16
import Derived.Test.YtjjefdkadgkhfaaGreatK14
set_option linter.unusedVariables false
namespace Go.Proofs.YtjjefdkadgkhfaaGreat
open Go.RowKit

theorem rsum_n (w : World) (va vb : Value) (a b : Nat) (h : Sl w va (limbs a)) (k : Sl w vb (limbs b)) (ha : (limbs a).length ≤ 1000000) (hb : (limbs b).length ≤ 1000000) :
    Calls Tryz.prog 99 #[va, vb] w (RetNat w (a + b)) := by
  have := Sum_c w va vb _ _ h k ha hb; rwa [val_limbs, val_limbs] at this

theorem lit_one (w : World) : Sl (w.alloc (.cells #[.int .u32 1] 71)) (.slice (some ⟨w.heap.size, 0, none⟩) 1 1) (limbs 1) := by
  rw [limbs_one]
  exact Sl.of_row (l := [1]) (Row32.lit1 w 1 1 rfl) (Lb.cons (by omega) Lb.nil) (by simp) (by omega)
theorem ownsRow_le {w : World} {base b n size : Nat} {t : TypeId} {v : Value} {xs : List Value} (h : w.ownsRow base t size v n xs) (hb : b ≤ base) : w.ownsRow b t size v n xs := by
  refine ⟨h.1, ?_⟩
  rcases h.2 with h1 | ⟨g, cap, cur, h1, h2, h3⟩
  · exact .inl h1
  · exact .inr ⟨g, cap, cur, h1, Nat.le_trans hb h2, h3⟩
/-- A row of one number 1. -/
theorem lit_row (w : World) (base : Nat) (hb : base ≤ w.heap.size) (i : Nat) : ((w.alloc (.cells #[.int .u32 1] 71)).alloc (.cells #[.slice (some ⟨w.heap.size, 0, none⟩) 1 1] 24)).ownsRow base 24 1 (.slice (some ⟨w.heap.size + 1, 0, none⟩) 1 1) 1 [.slice (some ⟨w.heap.size, 0, none⟩) 1 1] ∧
    EntsN ((w.alloc (.cells #[.int .u32 1] 71)).alloc (.cells #[.slice (some ⟨w.heap.size, 0, none⟩) 1 1] 24)) [.slice (some ⟨w.heap.size, 0, none⟩) 1 1] (pasc i 1) := by
  constructor
  · have := ownsRow_one1 (w.alloc (.cells #[.int .u32 1] 71)) (base := base) 24 (by simp; omega) (.slice (some ⟨w.heap.size, 0, none⟩) 1 1)
    simpa using this
  · rw [pasc_one]
    exact ((EntsN.nil _).snoc (lit_one w)).after ((Below.refl _ _).alloc (Nat.le_refl _) _)

set_option maxRecDepth 100000 in
set_option maxHeartbeats 4000000 in
theorem rchoose_c (w : World) (n k : Nat) (hk : k ≤ n) (hn : n ≤ 64) :
    Calls Tryz.prog 98 #[.int .i64 (n : Int), .int .i64 (k : Int)] w (RetNat w (ch n k)) := by
  obtain ⟨i0, hi, hz0, hz1, hz2⟩ := info_parts infoN
  have hlm : Hid (maxLen = 9223372036854775807) := rfl
  go_enter Tryz.func98, Tryz.ntmps98
  go_wp2
  go_loopg [5, 6] n (fun g o t wx => ∃ (i gg cap : Nat) (es : List Value), i ≤ n ∧ g = n - i ∧ t = .int .i64 (i : Int) ∧ o = .slice (some ⟨gg, 0, none⟩) (i + 1) cap ∧ Hid (wx.ownsRow w.heap.size 24 1 (.slice (some ⟨gg, 0, none⟩) (i + 1) cap) (i + 1) es) ∧ Hid (EntsN wx es (pasc i (i + 1))) ∧ Hid (Below w.heap.size w wx))
  case atStart =>
    obtain ⟨h1, h2⟩ := lit_row w w.heap.size (Nat.le_refl _) 0
    exact ⟨0, _, _, _, Nat.zero_le _, rfl, rfl, rfl, h1, h2, ((Below.refl _ w).alloc (Nat.le_refl _) _).alloc (by simp) _⟩
  case round =>
    obtain ⟨i, gg, cap, es, hile, rfl, rfl, rfl, hown, hE, hbl⟩ := hrel
    by_cases hlt : i < n
    · obtain ⟨wo, rfl⟩ : ∃ wo : World, wo = wr := ⟨_, rfl⟩
      have hRow := Lib.hid (RowN.of_own hown.out hE.out)
      have hgl : gg < wo.heap.size := (hown.out.lt gg rfl).2
      have hsz := hbl.out.size
      obtain ⟨hO2, hE2⟩ := lit_row wo wo.heap.size (Nat.le_refl _) (i + 1)
      have hbw : Below wo.heap.size wo ((wo.alloc (.cells #[.int .u32 1] 71)).alloc (.cells #[.slice (some ⟨wo.heap.size, 0, none⟩) 1 1] 24)) := ((Below.refl _ wo).alloc (Nat.le_refl _) _).alloc (by simp) _
      have HR2 := Lib.hid (hRow.out.after hbw)
      have HO2 := Lib.hid hO2
      have HE2 := Lib.hid hE2
      have HBW := Lib.hid hbw
      clear hown hE hO2 hE2 hbw
      go_wp2
      go_loopg [7, 8] i (fun g o t wi => ∃ (j g2 cap2 : Nat) (es2 : List Value), j ≤ i ∧ g = i - j ∧ t = .int .i64 ((j : Int) + 1) ∧ o = .slice (some ⟨g2, 0, none⟩) (j + 1) cap2 ∧ Hid (wi.ownsRow wo.heap.size 24 1 (.slice (some ⟨g2, 0, none⟩) (j + 1) cap2) (j + 1) es2) ∧ Hid (EntsN wi es2 (pasc (i + 1) (j + 1))) ∧ Hid (RowN wi gg (pasc i (i + 1))) ∧ Hid (Below wo.heap.size wo wi))
      case atStart => exact ⟨0, _, _, _, Nat.zero_le _, rfl, rfl, rfl, HO2.out, HE2.out, HR2.out, HBW.out⟩
      case round =>
        obtain ⟨j, g2, cap2, es2, hki, rfl, rfl, rfl, hown, hE, hR, hb2⟩ := hrel
        clear HR2 HO2 HE2 HBW
        by_cases hlk : j < i
        · obtain ⟨va, hva, hsa⟩ := hR.out j _ (pasc_get (by omega))
          obtain ⟨vb, hvb, hsb⟩ := hR.out (j + 1) _ (pasc_get (by omega))
          obtain ⟨pa, ca, rfl, _, _⟩ := hsa.shape
          obtain ⟨pb, cb, rfl, _, _⟩ := hsb.shape
          have hS1 := Lib.hid hsa
          have hS2 := Lib.hid hsb
          have hl1 : Hid ((limbs (ch i j)).length ≤ 1000000) := by show _ ≤ _; have := ch_limbs (n := i) (k := j) (by omega); omega
          have hl2 : Hid ((limbs (ch i (j + 1))).length ≤ 1000000) := by show _ ≤ _; have := ch_limbs (n := i) (k := j + 1) (by omega); omega
          have hgr : gg < wr.heap.size := by have := hb2.out.size; omega
          have hg2 := hown.out.lt g2 rfl
          have hsum : IntKind.i64.wrap (((j : Int) + 1) - 1) = (j : Int) := by rw [wrap_in (by omega) (by omega)]; omega
          have hsum0 : IntKind.i64.wrap (j : Int) = (j : Int) := wrap_in (by omega) (by omega)
          have hk0 : (0 : Int) ≤ (j : Int) := Int.natCast_nonneg _
          have hk1 : (j : Int) < (i : Int) + 1 := by omega
          have hk2 : (0 : Int) ≤ (j : Int) + 1 := by omega
          have hk3 : (j : Int) + 1 < (i : Int) + 1 := by omega
          have hk4 : ((j : Int) + 1).toNat = j + 1 := by omega
          clear hsa hsb
          go_upto_region 2 with fail
          go_region_held3 (fun w' => w'.cell? ⟨gg, j, none⟩ = some (.slice pa (limbs (ch i j)).length ca) ∧ w'.cell? ⟨gg, j + 1, none⟩ = some (.slice pb (limbs (ch i (j + 1))).length cb))
            (first
             | go_keep
             | (exact ⟨keep_cell hbA hva, keep_cell hbA hvb⟩)
             | (exact ⟨keep_cell hbB hva, keep_cell hbB hvb⟩)
             | (exact ⟨hgrow.cell (keep_cell hbB hva) hne, hgrow.cell (keep_cell hbB hvb) hne⟩))
            (first
             | (go_at_call 99; refine (rsum_n _ _ _ (ch i j) (ch i (j + 1)) ?_ ?_ hl1.out hl2.out).mono ?_; exact hS1.out.after (below_dr (Below.refl _ wr)); exact hS2.out.after (below_dr (Below.refl _ wr)); rintro e w3 ⟨v3, rfl, hv3, hb3⟩; obtain ⟨p3, c3, rfl, _, _⟩ := hv3.shape; have hbA := below_of_drew hb3; have hbB := hbA.alloc hbA.size (.cells #[.slice p3 (limbs (ch i j + ch i (j + 1))).length c3] 24))
             | (refine step_append_lies _ (by rfl) _ _ _ (by rfl) wo.heap.size 24 i0 _ 1 24 Tryz.underlying119 hi hz0 hz1 hz2 rfl (by omega) (.slice (some ⟨g2, 0, none⟩) (j + 1) cap2) (j + 1) es2 (by rfl) (ownsRow_after hown.out hbB) ⟨w3.heap.size, 0, none⟩ 1 1 [.slice p3 (limbs (ch i j + ch i (j + 1))).length c3] (by rfl) (by rfl) (World.news_of_block (cs := #[.slice p3 (limbs (ch i j + ch i (j + 1))).length c3]) (t := 24) (fr := (0, 0)) (heap_alloc_new w3 _)) (by simp [Value.oneCell']) (by omega) (by rw [hlm.out]; omega) (by omega) (by have := hbA.size; simp; omega) (w3.heap.size + 1) (by simp) ?_; intro g3 cap3 w5 hown5 hgrow hat hlt5; have hne : some gg ≠ (Value.slice (some ⟨g2, 0, none⟩) (j + 1) cap2).ownBlock := fun e => by have := congrArg (Option.getD · 0) e; simp [Value.ownBlock] at this; omega))
          have htag := ownsRow_tag (ownsRow_after hown.out hbB) (show 24 ≠ 71 by decide)
          have hE5 : Hid (EntsN w5 (es2 ++ [.slice p3 (limbs (ch i j + ch i (j + 1))).length c3]) (pasc (i + 1) (j + 1) ++ [ch (i + 1) (j + 1)])) := by
            show EntsN _ _ _
            rw [ch_succ]
            exact ((hE.out.after hbB).grown hgrow htag).snoc ((hv3.alloc _).grown hgrow htag)
          have hR5 := Lib.hid ((hR.out.after hbB).grown hgrow hne htag)
          have hO5 := Lib.hid hown5
          have hW5 : Hid (Below wo.heap.size wo w5) := (hb2.out.trans (hbB.mono hb2.out.size)).grown hgrow (by have := hb2.out.size; have := hbB.size; omega) (fun k hk => (hown.out.lt k hk).1)
          clear hown5 hgrow hat hbA hbB hb3 hv3 htag hva hvb hne hsum hsum0 hk4
          go_wp2_with fail
          go_roundg (i - (j + 1))
          case measure => omega
          case rel => exact ⟨j + 1, g3, cap3, _, hlk, rfl, by go_num, rfl, hO5.out, (pasc_succ _ _) ▸ hE5.out, hR5.out, hW5.out⟩
        · obtain rfl : j = i := by omega
          have hW2 : Hid (Below w.heap.size w wr) := hbl.out.trans (hb2.out.mono hsz)
          have hg2 := hown.out.lt g2 rfl
          have hsz2 := hb2.out.size
          go_wp2_with (at_builtin; refine wpList_append_own _ rfl _ _ 119 rfl wo.heap.size 24 i0 (.slice none 0 0) 1 24 Tryz.underlying119 hi hz0 hz1 hz2 rfl (by decide) _ _ _ rfl ((hown.out.alloc _).alloc _) ⟨wr.heap.size + 1, 0, none⟩ 1 1 [.slice (some ⟨wr.heap.size, 0, none⟩) 1 1] rfl rfl ?c1 ?c2 ?c3 ?c4 ?c5 ?_)
          case c1 => exact World.news_of_block (cs := #[.slice (some ⟨wr.heap.size, 0, none⟩) 1 1]) (t := 24) (fr := (0, 0)) (by have := heap_alloc_new (wr.alloc (.cells #[.int .u32 1] 71)) (.cells #[.slice (some ⟨wr.heap.size, 0, none⟩) 1 1] 24); simpa using this)
          case c2 => simp [Value.oneCell']
          case c3 => rw [hlm.out]; omega
          case c4 => omega
          case c5 => simp; omega
          intro v' w5 hown5 hgrow _
          obtain ⟨g3, cap3, rfl⟩ := own_shape hown5
          have hbB : Below wr.heap.size wr ((wr.alloc (.cells #[.int .u32 1] 71)).alloc (.cells #[.slice (some ⟨wr.heap.size, 0, none⟩) 1 1] 24)) := ((Below.refl _ wr).alloc (Nat.le_refl _) _).alloc (by simp) _
          have htag := ownsRow_tag (ownsRow_after hown.out hbB) (show 24 ≠ 71 by decide)
          have hE5 : Hid (EntsN w5 (es2 ++ [.slice (some ⟨wr.heap.size, 0, none⟩) 1 1]) (pasc (j + 1) (j + 1) ++ [ch (j + 1) (j + 1)])) := by
            show EntsN _ _ _
            rw [ch_self]
            exact ((hE.out.after hbB).grown hgrow htag).snoc (((lit_one wr).alloc _).grown hgrow htag)
          have hO5 : Hid (w5.ownsRow w.heap.size 24 1 (.slice (some ⟨g3, 0, none⟩) (j + 1 + 1) cap3) (j + 1 + 1) (es2 ++ [.slice (some ⟨wr.heap.size, 0, none⟩) 1 1])) := ownsRow_le hown5 hsz
          have hW5 : Hid (Below w.heap.size w w5) := (hW2.out.trans (hbB.mono hW2.out.size)).grown hgrow (by have := hbB.size; omega) (fun k hk => by have := (hown.out.lt k hk).1; omega)
          clear hown5 hgrow hbB htag
          go_wp2_with fail
          go_roundg (n - (j + 1))
          case measure => omega
          case rel => exact ⟨j + 1, g3, cap3, _, hlt, rfl, by go_num, rfl, hO5.out, (pasc_succ _ _) ▸ hE5.out, hW5.out⟩
    · obtain rfl : i = n := by omega
      obtain ⟨va, hva, hsa⟩ := (RowN.of_own hown.out hE.out) k _ (pasc_get (by omega))
      obtain ⟨pa, ca, rfl, _, _⟩ := hsa.shape
      have hS := Lib.hid hsa
      have hk0 : (0 : Int) ≤ (k : Int) := Int.natCast_nonneg _
      have hk1 : (k : Int) < (i : Int) + 1 := by omega
      clear hsa
      go_wp2_with fail
      go_ret
      exact ⟨_, rfl, hS.out, hbl.out⟩
end Go.Proofs.YtjjefdkadgkhfaaGreat

namespace Go.Proofs.YtjjefdkadgkhfaaGreat
open Go.RowKit

theorem rdiff_n (w : World) (va vb : Value) (a b : Nat) (h : Sl w va (limbs a)) (k : Sl w vb (limbs b)) (hle : b ≤ a) (ha : (limbs a).length ≤ 1000000) :
    Calls Tryz.prog 97 #[va, vb] w (RetNat w (a - b)) := by
  have := Diff_c w va vb _ _ h k (limbs_len_mono hle) (by rw [val_limbs, val_limbs]; exact hle) ha; rwa [val_limbs, val_limbs] at this
theorem limbs_1000 {a : Nat} (h : a ≤ 1000) : (limbs a).length ≤ 1 := limbs_len_lt (by omega)

set_option maxRecDepth 100000 in
set_option maxHeartbeats 2000000 in
theorem numerator_c (w : World) (v : Value) (n k a b : Nat) (h : IsF w v (fr false a b)) (hk : k ≤ n) (hn : n ≤ 64) (hab : a ≤ b) (hb1 : b ≤ 1000) :
    Calls Tryz.prog 68 #[.int .i64 (n : Int), .int .i64 (k : Int), v] w (RetNat w (ex a (b - a) n k)) := by
  have HX := h
  obtain ⟨va, vb, rfl, h1, h2⟩ := h
  obtain ⟨p, cp, rfl, _, _⟩ := h1.shape
  obtain ⟨q, cq, rfl, _, _⟩ := h2.shape
  obtain ⟨W0, hW, bx, hsz, hb0⟩ := start1 w #[.bool (fr false a b).neg, .slice p (fr false a b).num.length cp, .slice q (fr false a b).den.length cq] 26
  obtain ⟨c0, c1, c2⟩ := bx.cells3
  have H1 := Lib.hid (h1.after hb0)
  have H2 := Lib.hid (h2.after hb0)
  have HB0 := Lib.hid hb0
  have mkS : Hid (∀ w', Below W0.heap.size W0 w' → w'.cell? ⟨w.heap.size, 1, none⟩ = some (.slice p (fr false a b).num.length cp) ∧ w'.cell? ⟨w.heap.size, 2, none⟩ = some (.slice q (fr false a b).den.length cq)) :=
    fun w' hb => ⟨keep_cell hb c1, keep_cell hb c2⟩
  have la : Hid ((limbs a).length ≤ 64) := Nat.le_trans (limbs_1000 (by omega)) (by omega)
  have lb : Hid ((limbs b).length ≤ 1000000) := Nat.le_trans (limbs_1000 (by omega)) (by omega)
  have lc : Hid ((limbs (b - a)).length ≤ 64) := Nat.le_trans (limbs_1000 (by omega)) (by omega)
  have lak : Hid ((limbs (a ^ k)).length ≤ 1000) := Nat.le_trans (pow_limbs (by omega) (by omega)) (by omega)
  have lck : Hid ((limbs ((b - a) ^ (n - k))).length ≤ 1000) := Nat.le_trans (pow_limbs (by omega) (by omega)) (by omega)
  have hsub : IntKind.i64.wrap ((n : Int) - (k : Int)) = ((n - k : Nat) : Int) := by rw [wrap_in (by omega) (by omega)]; omega
  have HSUB := Lib.hid hsub
  have pw : Hid (∀ (w : World) (v : Value) (z : Int), z = ((n - k : Nat) : Int) → Sl w v (limbs (b - a)) → Calls Tryz.prog 69 #[v, .int .i64 z] w (RetNat w ((b - a) ^ (n - k)))) := by
    rintro w v z rfl h
    exact power_c w v (b - a) (n - k) h (by omega) lc.out
  clear HX bx hb0 h1 h2 c0 c1 c2 hsub
  go_enter Tryz.func68, Tryz.ntmps68
  go_upto_region 1 with fail
  rw [← hW]
  clear hW
  go_region_held3 (fun w' => w'.cell? ⟨w.heap.size, 1, none⟩ = some (.slice p (fr false a b).num.length cp) ∧ w'.cell? ⟨w.heap.size, 2, none⟩ = some (.slice q (fr false a b).den.length cq))
    (first | (refine mkS.out _ ?_; (repeat (first | with_reducible exact hk4 | with_reducible exact hk3 | with_reducible exact hk2 | with_reducible exact hk1 | with_reducible exact Below.refl _ _ | with_reducible refine below_dr ?_)); done))
    (first
     | (go_at_call_of 69 p; refine (power_c _ _ a k ?_ (by omega) la.out).mono ?_; exact H1.out.after (below_dr (Below.refl _ W0)); rintro e w1 ⟨v1, rfl, hv1, hb1⟩; obtain ⟨p1, cp1, rfl, _, _⟩ := hv1.shape; have hk1 := below_of_drew hb1)
     | (go_at_call 97; refine (rdiff_n _ _ _ b a ?_ ?_ hab lb.out).mono ?_; exact H2.out.after hk1; exact H1.out.after hk1; rintro e w2 ⟨v2, rfl, hv2, hb2⟩; obtain ⟨p2, cp2, rfl, _, _⟩ := hv2.shape; have hk2 := hk1.trans (hb2.mono hk1.size))
     | (go_at_call_of 69 p2; refine (pw.out _ _ _ ?_ hv2).mono ?_; exact HSUB.out; rintro e w3 ⟨v3, rfl, hv3, hb3⟩; obtain ⟨p3, cp3, rfl, _, _⟩ := hv3.shape; have hk3 := hk2.trans (hb3.mono hk2.size))
     | (go_at_call 70; refine (rproduct_n _ _ _ (a ^ k) ((b - a) ^ (n - k)) ?_ hv3 (Nat.le_trans lak.out (by omega)) (Nat.le_trans lck.out (by omega))).mono ?_; exact (hv1.after hb2).after hb3; rintro e w4 ⟨v4, rfl, hv4, hb4⟩; obtain ⟨p4, cp4, rfl, _, _⟩ := hv4.shape; have hk4 := hk3.trans (hb4.mono hk3.size)))
  have HV4 := Lib.hid hv4
  have HK4 := Lib.hid (HB0.out.trans (hk4.mono HB0.out.size))
  clear hk1 hk2 hk3 hk4 hb1 hb2 hb3 hb4 hv1 hv2 hv3 hv4 mkS
  go_wp2_with fail
  refine (rchoose_c _ n k hk hn).mono ?_
  rintro e w5 ⟨v5, rfl, hv5, hb5⟩
  obtain ⟨p5, cp5, rfl, _, _⟩ := hv5.shape
  have HV5 := Lib.hid hv5
  have HB5 := Lib.hid hb5
  clear hv5 hb5
  have lp : Hid ((limbs (a ^ k * (b - a) ^ (n - k))).length ≤ 1000000) := Nat.le_trans (limbs_mul_len _ _) (by have := lak.out; have := lck.out; omega)
  have lh : Hid ((limbs (ch n k)).length ≤ 1000000) := Nat.le_trans (ch_limbs hn) (by omega)
  go_wp2_with fail
  refine (rproduct_n _ _ _ (a ^ k * (b - a) ^ (n - k)) (ch n k) (HV4.out.after HB5.out) HV5.out lp.out lh.out).mono ?_
  rintro e w6 ⟨v6, rfl, hv6, hb6⟩
  obtain ⟨p6, cp6, rfl, _, _⟩ := hv6.shape
  have HV6 := Lib.hid hv6
  have HB6 := Lib.hid ((HK4.out.trans (HB5.out.mono HK4.out.size)).trans (hb6.mono (by have := HK4.out.size; have := HB5.out.size; omega)))
  clear hv6 hb6
  go_wp2_with fail
  go_ret
  exact ⟨_, rfl, HV6.out, HB6.out⟩

theorem ex_limbs {a b n k : Nat} (hab : a ≤ b) (hb1 : b ≤ 1000) (hn : n ≤ 64) : (limbs (ex a (b - a) n k)).length ≤ 20 :=
  Nat.le_trans (limbs_len_mono (ex_all_le a (b - a) n k)) (pow_limbs (by omega) hn)
theorem tl_limbs {a b n k : Nat} (hab : a ≤ b) (hb1 : b ≤ 1000) (hn : n ≤ 64) : (limbs (tl a (b - a) n k)).length ≤ 20 :=
  Nat.le_trans (limbs_len_mono (tl_all_le a (b - a) n k)) (pow_limbs (by omega) hn)

set_option maxRecDepth 100000 in
set_option maxHeartbeats 2000000 in
theorem rtail_c (w : World) (v : Value) (n k a b : Nat) (h : IsF w v (fr false a b)) (hk : k ≤ n + 1) (hn : n ≤ 64) (hab : a ≤ b) (hb1 : b ≤ 1000) :
    Calls Tryz.prog 72 #[.int .i64 (n : Int), .int .i64 (k : Int), v] w (RetNat w (tl a (b - a) n k)) := by
  have HX := h
  obtain ⟨va, vb, rfl, h1, h2⟩ := h
  obtain ⟨p, cp, rfl, _, _⟩ := h1.shape
  obtain ⟨q, cq, rfl, _, _⟩ := h2.shape
  obtain ⟨W0, hW, bx, hsz, hb0⟩ := start1 w #[.bool (fr false a b).neg, .slice p (fr false a b).num.length cp, .slice q (fr false a b).den.length cq] 26
  have H1 := Lib.hid (HX.after hb0)
  have HB0 := Lib.hid hb0
  have BX := Lib.hid bx
  have lt_ : Hid (∀ i, (limbs (tl a (b - a) n i)).length ≤ 20) := fun i => tl_limbs hab hb1 hn
  have le_ : Hid (∀ i, (limbs (ex a (b - a) n i)).length ≤ 20) := fun i => ex_limbs hab hb1 hn
  clear HX bx hb0 h1 h2
  go_enter Tryz.func72, Tryz.ntmps72
  go_upto_region 1 with fail
  rw [← hW]
  clear hW
  go_wp2_with fail
  go_loopg [7, 8] (n + 1 - k) (fun g o t wx => ∃ (i s : Nat) (r : Option Addr) (cr : Nat), k ≤ i ∧ i ≤ n + 1 ∧ g = n + 1 - i ∧ t = .int .i64 (i : Int) ∧ o = .slice r (limbs s).length cr ∧ Hid (Sl wx (.slice r (limbs s).length cr) (limbs s)) ∧ Hid (s + tl a (b - a) n i = tl a (b - a) n k) ∧ Hid (Below w.heap.size w wx) ∧
    Hid (Box wx w.heap.size #[.bool (fr false a b).neg, .slice p (fr false a b).num.length cp, .slice q (fr false a b).den.length cq] 26) ∧ Hid (IsF wx (.agg #[.bool (fr false a b).neg, .slice p (fr false a b).num.length cp, .slice q (fr false a b).den.length cq]) (fr false a b)))
  case atStart =>
    refine ⟨k, 0, none, 0, Nat.le_refl _, hk, rfl, rfl, ?_, ?_, Nat.zero_add _, HB0.out, BX.out, H1.out⟩
    · rw [limbs_zero]; rfl
    · rw [limbs_zero]; exact Sl.nil _
  case round =>
    obtain ⟨i, s, r, cr, hki, hin, rfl, rfl, rfl, hs, hrel, hbl, hbx, hx⟩ := hrel
    by_cases hlt : i ≤ n
    · obtain ⟨x0, x1, x2⟩ := hbx.out.cells3
      have hrec : Hid (tl a (b - a) n i = ex a (b - a) n i + tl a (b - a) n (i + 1)) := tl_le hlt
      have ls : Hid ((limbs s).length ≤ 20) := by
        show _ ≤ _
        have h1 : s ≤ tl a (b - a) n k := by have := hrel.out; omega
        exact Nat.le_trans (limbs_len_mono h1) (lt_.out k)
      go_wp2_with fail
      refine (numerator_c _ _ n i a b hx.out hlt hn hab hb1).mono ?_
      rintro e w1 ⟨v1, rfl, hv1, hb1'⟩
      obtain ⟨p1, cp1, rfl, _, _⟩ := hv1.shape
      have HV := Lib.hid hv1
      have HB := Lib.hid hb1'
      clear hv1 hb1' x0 x1 x2
      go_wp2_with fail
      refine (rsum_n _ _ _ s (ex a (b - a) n i) (hs.out.after HB.out) HV.out (Nat.le_trans ls.out (by omega)) (Nat.le_trans (le_.out i) (by omega))).mono ?_
      rintro e w2 ⟨v2, rfl, hv2, hb2⟩
      obtain ⟨p2, cp2, rfl, _, _⟩ := hv2.shape
      have HV2 := Lib.hid hv2
      have HB2 := Lib.hid (HB.out.trans (hb2.mono HB.out.size))
      have HB3 := Lib.hid (hbl.out.trans (HB2.out.mono hbl.out.size))
      clear hv2 hb2
      go_wp2_with fail
      go_roundg (n + 1 - (i + 1))
      case measure => omega
      case rel => exact ⟨i + 1, s + ex a (b - a) n i, p2, cp2, by omega, by omega, rfl, by go_num, rfl, HV2.out, by show _ = _; have := hrec.out; have := hrel.out; omega, HB3.out, hbx.out.after HB2.out, hx.out.after HB2.out⟩
    · obtain rfl : i = n + 1 := by omega
      have hfin : Hid (s = tl a (b - a) n k) := by show _ = _; have := hrel.out; rw [tl_gt (by omega)] at this; omega
      clear hrel
      go_wp2_with fail
      go_ret
      rw [← hfin.out]
      exact ⟨_, rfl, hs.out, hbl.out⟩
end Go.Proofs.YtjjefdkadgkhfaaGreat

namespace Go.Proofs.YtjjefdkadgkhfaaGreat
open Go.RowKit

theorem checkE_bad {x : F} {g : Bool} (h : rateE x ≠ 0) : checkE x g = rateE x := by unfold checkE; rw [if_neg h]
theorem checkE_false {x : F} (h : rateE x = 0) : checkE x false = 2 := by unfold checkE; rw [if_pos h, if_neg (by simp)]
theorem checkE_true {x : F} (h : rateE x = 0) : checkE x true = 0 := by unfold checkE; rw [if_pos h, if_pos rfl]
/-- The result left as it was made: nothing, with an error. -/
theorem retF_zero {w w1 : World} {R : Nat} {r : Int} {t : TypeId} (hb : Below w.heap.size w w1) (hle : w.heap.size ≤ R) (_ : Box w1 R #[.bool false, .slice none 0 0, .slice none 0 0] t) :
    RetF w (F0, r) (.returned (.tuple #[.agg #[.bool false, .slice none 0 0, .slice none 0 0], .int .i64 r])) (((w1.setCell ⟨R, 0, none⟩ (.bool false)).setCell ⟨R, 1, none⟩ (.slice none 0 0)).setCell ⟨R, 2, none⟩ (.slice none 0 0)) :=
  ⟨_, rfl, IsF.zero _, ((hb.setCell (p := ⟨R, 0, none⟩) hle _).setCell (p := ⟨R, 1, none⟩) hle _).setCell (p := ⟨R, 2, none⟩) hle _⟩
theorem rpower_b (w : World) (v : Value) (b n : Nat) (h : Sl w v (limbs b)) (hn : n ≤ 64) (hb : b ≤ 1000) : Calls Tryz.prog 69 #[v, .int .i64 (n : Int)] w (RetNat w (b ^ n)) :=
  power_c w v b n h hn (Nat.le_trans (limbs_1000 hb) (by omega))

set_option maxRecDepth 100000 in
set_option maxHeartbeats 4000000 in
theorem rExactly_c (w : World) (n k : Int) (v : Value) (x : F) (h : IsF w v x) : Calls Tryz.prog 42 #[.int .i64 n, .int .i64 k, v] w (RetF w (exactlyF n k x)) := by
  have HX := h
  obtain ⟨va, vb, rfl, h1, h2⟩ := h
  obtain ⟨p, cp, rfl, _, _⟩ := h1.shape
  obtain ⟨q, cq, rfl, _, _⟩ := h2.shape
  obtain ⟨W0, hW, bx, br, hsz, hb0⟩ := start2 w #[.bool x.neg, .slice p x.num.length cp, .slice q x.den.length cq] #[.bool false, .slice none 0 0, .slice none 0 0] 26
  obtain ⟨c0, c1, c2⟩ := bx.cells3
  have H1 := Lib.hid (HX.after hb0)
  have HB0 := Lib.hid hb0
  have BX := Lib.hid bx
  have BR := Lib.hid br
  clear HX bx br hb0 h1 h2
  obtain ⟨r, hr⟩ : ∃ r, rateE x = r := ⟨_, rfl⟩
  have hrc := rateE_cases x
  rw [hr] at hrc
  have HRR := Lib.hid hr
  by_cases h1 : r = 1
  · subst h1
    have hs : Hid (exactlyF n k x = (F0, 1)) := by
      show _ = _
      unfold exactlyF
      rw [checkE_bad (by rw [hr]; omega), hr, if_neg (by omega)]
    clear hr hrc
    go_enter Tryz.func42, Tryz.ntmps42
    go_upto_region 1 with fail
    rw [← hW]
    clear hW
    go_wp2_with fail
    refine (Rate_c _ _ _ H1.out).mono ?_
    rw [HRR.out]
    rintro e w1 ⟨rfl, hb1⟩
    obtain ⟨r0, r1, r2⟩ := (BR.out.after hb1).cells3
    have f0 := (BR.out.after hb1).frozen 0
    have f1 := (BR.out.after hb1).frozen 1
    have f2 := (BR.out.after hb1).frozen 2
    have hlt := (BR.out.after hb1).lt
    have BX1 := Lib.hid (BR.out.after hb1)
    have HB1 := Lib.hid (HB0.out.trans (hb1.mono HB0.out.size))
    clear hb1 c0 c1 c2
    go_wp2_with fail
    obtain ⟨e0, e1, e2⟩ := (end_box BX1.out (y0 := .bool false) (y1 := .slice none 0 0) (y2 := .slice none 0 0)).cells3
    refine bodyPost_ret (v := .tuple #[.agg #[.bool false, .slice none 0 0, .slice none 0 0], .int .i64 1]) (by simp [results, Tryz.results42, go_sem, e0, e1, e2]) rfl ?_
    rw [hs.out]
    exact retF_zero HB1.out (Nat.le_succ _) BX1.out
  by_cases h0 : r = 0
  · subst h0
    obtain ⟨t, ht⟩ : ∃ t, trialsB n k (n) = t := ⟨_, rfl⟩
    cases t with
    | false =>
      have hs : Hid (exactlyF n k x = (F0, 2)) := by
        show _ = _
        unfold exactlyF
        rw [ht, checkE_false hr, if_neg (by omega)]
      have HT := Lib.hid ht
      clear hr hrc h1 ht
      go_enter Tryz.func42, Tryz.ntmps42
      go_upto_region 1 with fail
      rw [← hW]
      clear hW
      go_wp2_with fail
      refine (Rate_c _ _ _ H1.out).mono ?_
      rw [HRR.out]
      rintro e w1 ⟨rfl, hb1⟩
      obtain ⟨c0', c1', c2'⟩ := (BX.out.after hb1).cells3
      have K1 := Lib.hid (H1.out.after hb1)
      have HB1 := Lib.hid hb1
      clear hb1 c0 c1 c2
      go_wp2_with fail
      refine (Rate_c _ _ _ K1.out).mono ?_
      rw [HRR.out]
      rintro e w2 ⟨rfl, hb2⟩
      have hb02 := HB1.out.trans (hb2.mono HB1.out.size)
      obtain ⟨r0, r1, r2⟩ := (BR.out.after hb02).cells3
      have f0 := (BR.out.after hb02).frozen 0
      have f1 := (BR.out.after hb02).frozen 1
      have f2 := (BR.out.after hb02).frozen 2
      have hlt := (BR.out.after hb02).lt
      have BX1 := Lib.hid (BR.out.after hb02)
      have HB2 := Lib.hid (HB0.out.trans (hb02.mono HB0.out.size))
      clear hb02 hb2 c0' c1' c2'
      go_wp2_with fail
      refine (rtrials_c _ _ _ _).mono ?_
      first | rw [HT.out] | rw [← IntWalk.i64_left, HT.out]
      rintro e w' ⟨rfl, rfl⟩
      go_wp2_with fail
      obtain ⟨e0, e1, e2⟩ := (end_box BX1.out (y0 := .bool false) (y1 := .slice none 0 0) (y2 := .slice none 0 0)).cells3
      refine bodyPost_ret (v := .tuple #[.agg #[.bool false, .slice none 0 0, .slice none 0 0], .int .i64 2]) (by simp [results, Tryz.results42, go_sem, e0, e1, e2]) rfl ?_
      rw [hs.out]
      exact retF_zero HB2.out (Nat.le_succ _) BX1.out
    | true =>
      obtain ⟨a, b, rfl, hab, hb0, hb1, ha', hb'⟩ := rate_fr hr
      have htc := checkE_true hr
      rw [← ht] at htc
      obtain ⟨t1, t2, t3, t4⟩ := trialsB_iff.1 ht
      obtain ⟨N, rfl⟩ : ∃ N : Nat, n = N := ⟨n.toNat, by omega⟩
      obtain ⟨K, rfl⟩ : ∃ K : Nat, k = K := ⟨k.toNat, by omega⟩
      have hsp : exactlyF (N : Int) (K : Int) (fr false a b) = made false (ex a (b - a) N K) (b ^ N) := by
        unfold exactlyF
        rw [if_pos htc, ha', hb']
        simp
      have hN : N ≤ 64 := by omega
      have hK : K ≤ N := by omega
      have HN := Lib.hid hN
      have HK := Lib.hid hK
      have HT := Lib.hid ht
      have le1 : Hid ((limbs (ex a (b - a) N K)).length ≤ 400000) := Nat.le_trans (ex_limbs hab hb1 hN) (by omega)
      have le2 : Hid ((limbs (b ^ N)).length ≤ 400000) := Nat.le_trans (pow_limbs hb1 hN) (by omega)
      have HAB := Lib.hid hab
      have HBB := Lib.hid hb1
      have HBP : Hid (0 < b ^ N) := Nat.pow_pos hb0
      obtain ⟨o, ho⟩ : ∃ o, exactlyF (N : Int) (K : Int) (fr false a b) = o := ⟨_, rfl⟩
      rw [ho] at hsp
      have HO := Lib.hid ho
      have HM := Lib.hid hsp.symm
      clear hr hrc htc ha' hb' t1 t2 t3 t4 hab hb1 hb0 h1 ht ho hsp
      go_enter Tryz.func42, Tryz.ntmps42
      go_upto_region 1 with fail
      rw [← hW]
      clear hW
      go_wp2_with fail
      refine (Rate_c _ _ _ H1.out).mono ?_
      rw [HRR.out]
      rintro e w1 ⟨rfl, hb1⟩
      obtain ⟨c0', c1', c2'⟩ := (BX.out.after hb1).cells3
      have K1 := Lib.hid (H1.out.after hb1)
      have HB1 := Lib.hid hb1
      clear hb1 c0 c1 c2
      go_wp2_with fail
      refine (Rate_c _ _ _ K1.out).mono ?_
      rw [HRR.out]
      rintro e w2 ⟨rfl, hb2⟩
      have hb02 := HB1.out.trans (hb2.mono HB1.out.size)
      obtain ⟨d0, d1, d2⟩ := (BX.out.after hb02).cells3
      have H2 := Lib.hid (H1.out.after hb02)
      have HD : Hid (Sl w2 (.slice q (fr false a b).den.length cq) (limbs b)) := by
        obtain ⟨va, vb, e, h1, h2⟩ := H2.out
        obtain ⟨_, e2⟩ : .slice p (fr false a b).num.length cp = va ∧ .slice q (fr false a b).den.length cq = vb := by simpa using e
        rw [e2]; exact h2
      have mkS : Hid (∀ w', Below w2.heap.size w2 w' → w'.cell? ⟨w.heap.size, 0, none⟩ = some (.bool (fr false a b).neg) ∧ w'.cell? ⟨w.heap.size, 1, none⟩ = some (.slice p (fr false a b).num.length cp) ∧ w'.cell? ⟨w.heap.size, 2, none⟩ = some (.slice q (fr false a b).den.length cq)) :=
        fun w' hb => ⟨keep_cell hb d0, keep_cell hb d1, keep_cell hb d2⟩
      have BX1 := Lib.hid (BR.out.after hb02)
      have HB2 := Lib.hid (HB0.out.trans (hb02.mono HB0.out.size))
      clear hb02 hb2 c0' c1' c2' d0 d1 d2
      have d0 := (mkS.out w2 (Below.refl _ _)).1
      have d1 := (mkS.out w2 (Below.refl _ _)).2.1
      have d2 := (mkS.out w2 (Below.refl _ _)).2.2
      go_wp2_with fail
      refine (rtrials_c _ _ _ _).mono ?_
      rw [HT.out]
      rintro e w' ⟨rfl, hw⟩
      obtain rfl := hw.symm
      clear d0 d1 d2
      go_upto_region 2 with fail
      go_region_held3 (fun w' => w'.cell? ⟨w.heap.size, 0, none⟩ = some (.bool (fr false a b).neg) ∧ w'.cell? ⟨w.heap.size, 1, none⟩ = some (.slice p (fr false a b).num.length cp) ∧ w'.cell? ⟨w.heap.size, 2, none⟩ = some (.slice q (fr false a b).den.length cq))
        (first | (refine mkS.out _ ?_; (repeat (first | with_reducible exact hk5 | with_reducible exact hk4 | with_reducible exact hk3 | with_reducible exact Below.refl _ _ | with_reducible refine below_dr ?_)); done) | (with_reducible exact keep3z (by omega) (mkS.out _ hk5)))
        (first
         | (go_at_call 68; refine (numerator_c _ _ N K a b ?_ HK.out HN.out HAB.out HBB.out).mono ?_; exact H2.out.after (below_dr (Below.refl _ w2)); rintro e w3 ⟨v3, rfl, hv3, hb3⟩; obtain ⟨p3, cp3, rfl, _, _⟩ := hv3.shape; have hk3 := below_of_drew hb3)
         | (go_at_call 69; refine (rpower_b _ _ b N ?_ HN.out HBB.out).mono ?_; exact HD.out.after hk3; rintro e w4 ⟨v4, rfl, hv4, hb4⟩; obtain ⟨p4, cp4, rfl, _, _⟩ := hv4.shape; have hk4 := hk3.trans (hb4.mono hk3.size))
         | (go_at_call 65; refine (Made_c _ _ _ (ex a (b - a) N K) (b ^ N) false ?_ hv4 HBP.out le1.out le2.out).mono ?_; exact hv3.after hb4; rw [HM.out]; rintro e w5 ⟨v5, rfl, hv5, hb5⟩; have hk5 := hk4.trans (hb5.mono hk4.size); obtain ⟨vx, vy, rfl, h5, h6⟩ := hv5; obtain ⟨p6, cp6, rfl, _, _⟩ := h5.shape; obtain ⟨q6, cq6, rfl, _, _⟩ := h6.shape; have HS5 := Lib.hid h5; have HS6 := Lib.hid h6; have BR6 := BX1.out.after hk5; obtain ⟨z0, z1, z2⟩ := BR6.cells3; have f0 := BR6.frozen 0; have f1 := BR6.frozen 1; have f2 := BR6.frozen 2; clear h5 h6 hb5))
      have HK6 := Lib.hid (HB2.out.trans (hk5.mono HB2.out.size))
      have HR6 := Lib.hid BR6
      clear hk3 hk4 hk5 BR6 mkS hb3 hb4 hv3 hv4
      go_wp2_with fail
      refine bodyPost_ret (v := .tuple #[.agg #[.bool o.1.neg, .slice p6 o.1.num.length cp6, .slice q6 o.1.den.length cq6], .int .i64 o.2]) (by simp [results, Tryz.results42, go_sem, z0, z1, z2]) rfl ?_
      rw [HO.out]
      exact ⟨_, rfl, IsF.result HR6.out (fun _ h => by cases h) (fun _ h => by cases h) HS5.out HS6.out, ((HK6.out.setCell (p := ⟨w.heap.size + 1, 0, none⟩) (by simp) _).setCell (p := ⟨w.heap.size + 1, 1, none⟩) (by simp) _).setCell (p := ⟨w.heap.size + 1, 2, none⟩) (by simp) _⟩
  · obtain rfl : r = 2 := by omega
    have hs : Hid (exactlyF n k x = (F0, 2)) := by
      show _ = _
      unfold exactlyF
      rw [checkE_bad (by rw [hr]; omega), hr, if_neg (by omega)]
    clear hr hrc h0 h1
    go_enter Tryz.func42, Tryz.ntmps42
    go_upto_region 1 with fail
    rw [← hW]
    clear hW
    go_wp2_with fail
    refine (Rate_c _ _ _ H1.out).mono ?_
    rw [HRR.out]
    rintro e w1 ⟨rfl, hb1⟩
    obtain ⟨c0', c1', c2'⟩ := (BX.out.after hb1).cells3
    have K1 := Lib.hid (H1.out.after hb1)
    have HB1 := Lib.hid hb1
    clear hb1 c0 c1 c2
    go_wp2_with fail
    refine (Rate_c _ _ _ K1.out).mono ?_
    rw [HRR.out]
    rintro e w2 ⟨rfl, hb2⟩
    have hb02 := HB1.out.trans (hb2.mono HB1.out.size)
    obtain ⟨r0, r1, r2⟩ := (BR.out.after hb02).cells3
    have f0 := (BR.out.after hb02).frozen 0
    have f1 := (BR.out.after hb02).frozen 1
    have f2 := (BR.out.after hb02).frozen 2
    have hlt := (BR.out.after hb02).lt
    have BX1 := Lib.hid (BR.out.after hb02)
    have HB2 := Lib.hid (HB0.out.trans (hb02.mono HB0.out.size))
    clear hb02 hb2 c0' c1' c2'
    go_wp2_with fail
    obtain ⟨e0, e1, e2⟩ := (end_box BX1.out (y0 := .bool false) (y1 := .slice none 0 0) (y2 := .slice none 0 0)).cells3
    refine bodyPost_ret (v := .tuple #[.agg #[.bool false, .slice none 0 0, .slice none 0 0], .int .i64 2]) (by simp [results, Tryz.results42, go_sem, e0, e1, e2]) rfl ?_
    rw [hs.out]
    exact retF_zero HB2.out (Nat.le_succ _) BX1.out

set_option maxRecDepth 100000 in
set_option maxHeartbeats 4000000 in
theorem rTail_c (w : World) (n k : Int) (v : Value) (x : F) (h : IsF w v x) : Calls Tryz.prog 46 #[.int .i64 n, .int .i64 k, v] w (RetF w (tailF n k x)) := by
  have HX := h
  obtain ⟨va, vb, rfl, h1, h2⟩ := h
  obtain ⟨p, cp, rfl, _, _⟩ := h1.shape
  obtain ⟨q, cq, rfl, _, _⟩ := h2.shape
  obtain ⟨W0, hW, bx, br, hsz, hb0⟩ := start2 w #[.bool x.neg, .slice p x.num.length cp, .slice q x.den.length cq] #[.bool false, .slice none 0 0, .slice none 0 0] 26
  obtain ⟨c0, c1, c2⟩ := bx.cells3
  have H1 := Lib.hid (HX.after hb0)
  have HB0 := Lib.hid hb0
  have BX := Lib.hid bx
  have BR := Lib.hid br
  clear HX bx br hb0 h1 h2
  obtain ⟨r, hr⟩ : ∃ r, rateE x = r := ⟨_, rfl⟩
  have hrc := rateE_cases x
  rw [hr] at hrc
  have HRR := Lib.hid hr
  by_cases h1 : r = 1
  · subst h1
    have hs : Hid (tailF n k x = (F0, 1)) := by
      show _ = _
      unfold tailF
      rw [checkE_bad (by rw [hr]; omega), hr, if_neg (by omega)]
    clear hr hrc
    go_enter Tryz.func46, Tryz.ntmps46
    go_upto_region 1 with fail
    rw [← hW]
    clear hW
    go_wp2_with fail
    refine (Rate_c _ _ _ H1.out).mono ?_
    rw [HRR.out]
    rintro e w1 ⟨rfl, hb1⟩
    obtain ⟨r0, r1, r2⟩ := (BR.out.after hb1).cells3
    have f0 := (BR.out.after hb1).frozen 0
    have f1 := (BR.out.after hb1).frozen 1
    have f2 := (BR.out.after hb1).frozen 2
    have hlt := (BR.out.after hb1).lt
    have BX1 := Lib.hid (BR.out.after hb1)
    have HB1 := Lib.hid (HB0.out.trans (hb1.mono HB0.out.size))
    clear hb1 c0 c1 c2
    go_wp2_with fail
    obtain ⟨e0, e1, e2⟩ := (end_box BX1.out (y0 := .bool false) (y1 := .slice none 0 0) (y2 := .slice none 0 0)).cells3
    refine bodyPost_ret (v := .tuple #[.agg #[.bool false, .slice none 0 0, .slice none 0 0], .int .i64 1]) (by simp [results, Tryz.results46, go_sem, e0, e1, e2]) rfl ?_
    rw [hs.out]
    exact retF_zero HB1.out (Nat.le_succ _) BX1.out
  by_cases h0 : r = 0
  · subst h0
    obtain ⟨t, ht⟩ : ∃ t, trialsB n k (IntKind.i64.wrap (n + 1)) = t := ⟨_, rfl⟩
    cases t with
    | false =>
      have hs : Hid (tailF n k x = (F0, 2)) := by
        show _ = _
        unfold tailF
        rw [ht, checkE_false hr, if_neg (by omega)]
      have HT := Lib.hid ht
      clear hr hrc h1 ht
      go_enter Tryz.func46, Tryz.ntmps46
      go_upto_region 1 with fail
      rw [← hW]
      clear hW
      go_wp2_with fail
      refine (Rate_c _ _ _ H1.out).mono ?_
      rw [HRR.out]
      rintro e w1 ⟨rfl, hb1⟩
      obtain ⟨c0', c1', c2'⟩ := (BX.out.after hb1).cells3
      have K1 := Lib.hid (H1.out.after hb1)
      have HB1 := Lib.hid hb1
      clear hb1 c0 c1 c2
      go_wp2_with fail
      refine (Rate_c _ _ _ K1.out).mono ?_
      rw [HRR.out]
      rintro e w2 ⟨rfl, hb2⟩
      have hb02 := HB1.out.trans (hb2.mono HB1.out.size)
      obtain ⟨r0, r1, r2⟩ := (BR.out.after hb02).cells3
      have f0 := (BR.out.after hb02).frozen 0
      have f1 := (BR.out.after hb02).frozen 1
      have f2 := (BR.out.after hb02).frozen 2
      have hlt := (BR.out.after hb02).lt
      have BX1 := Lib.hid (BR.out.after hb02)
      have HB2 := Lib.hid (HB0.out.trans (hb02.mono HB0.out.size))
      clear hb02 hb2 c0' c1' c2'
      go_wp2_with fail
      refine (rtrials_c _ _ _ _).mono ?_
      first | rw [HT.out] | rw [← IntWalk.i64_left, HT.out]
      rintro e w' ⟨rfl, rfl⟩
      go_wp2_with fail
      obtain ⟨e0, e1, e2⟩ := (end_box BX1.out (y0 := .bool false) (y1 := .slice none 0 0) (y2 := .slice none 0 0)).cells3
      refine bodyPost_ret (v := .tuple #[.agg #[.bool false, .slice none 0 0, .slice none 0 0], .int .i64 2]) (by simp [results, Tryz.results46, go_sem, e0, e1, e2]) rfl ?_
      rw [hs.out]
      exact retF_zero HB2.out (Nat.le_succ _) BX1.out
    | true =>
      obtain ⟨a, b, rfl, hab, hb0, hb1, ha', hb'⟩ := rate_fr hr
      have htc := checkE_true hr
      rw [← ht] at htc
      obtain ⟨t1, t2, t3, t4⟩ := trialsB_iff.1 ht
      obtain ⟨N, rfl⟩ : ∃ N : Nat, n = N := ⟨n.toNat, by omega⟩
      obtain ⟨K, rfl⟩ : ∃ K : Nat, k = K := ⟨k.toNat, by omega⟩
      have hsp : tailF (N : Int) (K : Int) (fr false a b) = made false (tl a (b - a) N K) (b ^ N) := by
        unfold tailF
        rw [if_pos htc, ha', hb']
        simp
      have hN : N ≤ 64 := by omega
      have hw1 : IntKind.i64.wrap ((N : Int) + 1) = (N : Int) + 1 := wrap_in (by omega) (by omega)
      rw [hw1] at t4 ht
      have hK : K ≤ N + 1 := by omega
      have HN := Lib.hid hN
      have HK := Lib.hid hK
      have HT := Lib.hid ht
      have le1 : Hid ((limbs (tl a (b - a) N K)).length ≤ 400000) := Nat.le_trans (tl_limbs hab hb1 hN) (by omega)
      have le2 : Hid ((limbs (b ^ N)).length ≤ 400000) := Nat.le_trans (pow_limbs hb1 hN) (by omega)
      have HAB := Lib.hid hab
      have HBB := Lib.hid hb1
      have HBP : Hid (0 < b ^ N) := Nat.pow_pos hb0
      obtain ⟨o, ho⟩ : ∃ o, tailF (N : Int) (K : Int) (fr false a b) = o := ⟨_, rfl⟩
      rw [ho] at hsp
      have HO := Lib.hid ho
      have HM := Lib.hid hsp.symm
      clear hr hrc htc ha' hb' t1 t2 t3 t4 hab hb1 hb0 h1 ht ho hsp
      go_enter Tryz.func46, Tryz.ntmps46
      go_upto_region 1 with fail
      rw [← hW]
      clear hW
      go_wp2_with fail
      refine (Rate_c _ _ _ H1.out).mono ?_
      rw [HRR.out]
      rintro e w1 ⟨rfl, hb1⟩
      obtain ⟨c0', c1', c2'⟩ := (BX.out.after hb1).cells3
      have K1 := Lib.hid (H1.out.after hb1)
      have HB1 := Lib.hid hb1
      clear hb1 c0 c1 c2
      go_wp2_with fail
      refine (Rate_c _ _ _ K1.out).mono ?_
      rw [HRR.out]
      rintro e w2 ⟨rfl, hb2⟩
      have hb02 := HB1.out.trans (hb2.mono HB1.out.size)
      obtain ⟨d0, d1, d2⟩ := (BX.out.after hb02).cells3
      have H2 := Lib.hid (H1.out.after hb02)
      have HD : Hid (Sl w2 (.slice q (fr false a b).den.length cq) (limbs b)) := by
        obtain ⟨va, vb, e, h1, h2⟩ := H2.out
        obtain ⟨_, e2⟩ : .slice p (fr false a b).num.length cp = va ∧ .slice q (fr false a b).den.length cq = vb := by simpa using e
        rw [e2]; exact h2
      have mkS : Hid (∀ w', Below w2.heap.size w2 w' → w'.cell? ⟨w.heap.size, 0, none⟩ = some (.bool (fr false a b).neg) ∧ w'.cell? ⟨w.heap.size, 1, none⟩ = some (.slice p (fr false a b).num.length cp) ∧ w'.cell? ⟨w.heap.size, 2, none⟩ = some (.slice q (fr false a b).den.length cq)) :=
        fun w' hb => ⟨keep_cell hb d0, keep_cell hb d1, keep_cell hb d2⟩
      have BX1 := Lib.hid (BR.out.after hb02)
      have HB2 := Lib.hid (HB0.out.trans (hb02.mono HB0.out.size))
      clear hb02 hb2 c0' c1' c2' d0 d1 d2
      have d0 := (mkS.out w2 (Below.refl _ _)).1
      have d1 := (mkS.out w2 (Below.refl _ _)).2.1
      have d2 := (mkS.out w2 (Below.refl _ _)).2.2
      go_wp2_with fail
      refine (rtrials_c _ _ _ _).mono ?_
      rw [HT.out]
      rintro e w' ⟨rfl, hw⟩
      obtain rfl := hw.symm
      clear d0 d1 d2
      go_upto_region 2 with fail
      go_region_held3 (fun w' => w'.cell? ⟨w.heap.size, 0, none⟩ = some (.bool (fr false a b).neg) ∧ w'.cell? ⟨w.heap.size, 1, none⟩ = some (.slice p (fr false a b).num.length cp) ∧ w'.cell? ⟨w.heap.size, 2, none⟩ = some (.slice q (fr false a b).den.length cq))
        (first | (refine mkS.out _ ?_; (repeat (first | with_reducible exact hk5 | with_reducible exact hk4 | with_reducible exact hk3 | with_reducible exact Below.refl _ _ | with_reducible refine below_dr ?_)); done) | (with_reducible exact keep3z (by omega) (mkS.out _ hk5)))
        (first
         | (go_at_call 72; refine (rtail_c _ _ N K a b ?_ HK.out HN.out HAB.out HBB.out).mono ?_; exact H2.out.after (below_dr (Below.refl _ w2)); rintro e w3 ⟨v3, rfl, hv3, hb3⟩; obtain ⟨p3, cp3, rfl, _, _⟩ := hv3.shape; have hk3 := below_of_drew hb3)
         | (go_at_call 69; refine (rpower_b _ _ b N ?_ HN.out HBB.out).mono ?_; exact HD.out.after hk3; rintro e w4 ⟨v4, rfl, hv4, hb4⟩; obtain ⟨p4, cp4, rfl, _, _⟩ := hv4.shape; have hk4 := hk3.trans (hb4.mono hk3.size))
         | (go_at_call 65; refine (Made_c _ _ _ (tl a (b - a) N K) (b ^ N) false ?_ hv4 HBP.out le1.out le2.out).mono ?_; exact hv3.after hb4; rw [HM.out]; rintro e w5 ⟨v5, rfl, hv5, hb5⟩; have hk5 := hk4.trans (hb5.mono hk4.size); obtain ⟨vx, vy, rfl, h5, h6⟩ := hv5; obtain ⟨p6, cp6, rfl, _, _⟩ := h5.shape; obtain ⟨q6, cq6, rfl, _, _⟩ := h6.shape; have HS5 := Lib.hid h5; have HS6 := Lib.hid h6; have BR6 := BX1.out.after hk5; obtain ⟨z0, z1, z2⟩ := BR6.cells3; have f0 := BR6.frozen 0; have f1 := BR6.frozen 1; have f2 := BR6.frozen 2; clear h5 h6 hb5))
      have HK6 := Lib.hid (HB2.out.trans (hk5.mono HB2.out.size))
      have HR6 := Lib.hid BR6
      clear hk3 hk4 hk5 BR6 mkS hb3 hb4 hv3 hv4
      go_wp2_with fail
      refine bodyPost_ret (v := .tuple #[.agg #[.bool o.1.neg, .slice p6 o.1.num.length cp6, .slice q6 o.1.den.length cq6], .int .i64 o.2]) (by simp [results, Tryz.results46, go_sem, z0, z1, z2]) rfl ?_
      rw [HO.out]
      exact ⟨_, rfl, IsF.result HR6.out (fun _ h => by cases h) (fun _ h => by cases h) HS5.out HS6.out, ((HK6.out.setCell (p := ⟨w.heap.size + 1, 0, none⟩) (by simp) _).setCell (p := ⟨w.heap.size + 1, 1, none⟩) (by simp) _).setCell (p := ⟨w.heap.size + 1, 2, none⟩) (by simp) _⟩
  · obtain rfl : r = 2 := by omega
    have hs : Hid (tailF n k x = (F0, 2)) := by
      show _ = _
      unfold tailF
      rw [checkE_bad (by rw [hr]; omega), hr, if_neg (by omega)]
    clear hr hrc h0 h1
    go_enter Tryz.func46, Tryz.ntmps46
    go_upto_region 1 with fail
    rw [← hW]
    clear hW
    go_wp2_with fail
    refine (Rate_c _ _ _ H1.out).mono ?_
    rw [HRR.out]
    rintro e w1 ⟨rfl, hb1⟩
    obtain ⟨c0', c1', c2'⟩ := (BX.out.after hb1).cells3
    have K1 := Lib.hid (H1.out.after hb1)
    have HB1 := Lib.hid hb1
    clear hb1 c0 c1 c2
    go_wp2_with fail
    refine (Rate_c _ _ _ K1.out).mono ?_
    rw [HRR.out]
    rintro e w2 ⟨rfl, hb2⟩
    have hb02 := HB1.out.trans (hb2.mono HB1.out.size)
    obtain ⟨r0, r1, r2⟩ := (BR.out.after hb02).cells3
    have f0 := (BR.out.after hb02).frozen 0
    have f1 := (BR.out.after hb02).frozen 1
    have f2 := (BR.out.after hb02).frozen 2
    have hlt := (BR.out.after hb02).lt
    have BX1 := Lib.hid (BR.out.after hb02)
    have HB2 := Lib.hid (HB0.out.trans (hb02.mono HB0.out.size))
    clear hb02 hb2 c0' c1' c2'
    go_wp2_with fail
    obtain ⟨e0, e1, e2⟩ := (end_box BX1.out (y0 := .bool false) (y1 := .slice none 0 0) (y2 := .slice none 0 0)).cells3
    refine bodyPost_ret (v := .tuple #[.agg #[.bool false, .slice none 0 0, .slice none 0 0], .int .i64 2]) (by simp [results, Tryz.results46, go_sem, e0, e1, e2]) rfl ?_
    rw [hs.out]
    exact retF_zero HB2.out (Nat.le_succ _) BX1.out

end Go.Proofs.YtjjefdkadgkhfaaGreat

namespace Go.Proofs.YtjjefdkadgkhfaaGreat
open Go.RowKit

/-- The error that Critical returns where it returns one. -/
def critErr (r s : Int) : Int := if r = 1 ∨ s = 1 then 1 else 2

theorem abv_le {n a c x y k : Nat} (h : Abv n a c x y k) : k ≤ n := by
  rcases Nat.lt_or_ge n k with h1 | h1
  · unfold Abv at h; rw [tl_gt h1, Nat.zero_mul] at h; omega
  · exact h1
theorem abv_anti {n a c x y i j : Nat} (h : i ≤ j) (hj : Abv n a c x y j) : Abv n a c x y i :=
  Nat.lt_of_lt_of_le hj (Nat.mul_le_mul_right y (tl_anti' a c n h))
theorem critR_first {n a c x y i : Nat} (h1 : ∀ j, j < i → Abv n a c x y j) (h2 : ¬ Abv n a c x y i) : CritR n a c x y i := by
  cases i with
  | zero => exact .inr ⟨fun j _ hj => h2 (abv_anti (Nat.zero_le _) hj), rfl⟩
  | succ i => exact .inl ⟨i, abv_le (h1 i (by omega)), h1 i (by omega), fun j hj _ hA => h2 (abv_anti hj hA), rfl⟩
theorem critR_uniq {n a c x y r s : Nat} (h1 : CritR n a c x y r) (h2 : CritR n a c x y s) : r = s := by
  rcases h1 with ⟨k, hk, ha, hn, rfl⟩ | ⟨hn, rfl⟩ <;> rcases h2 with ⟨l, hl, hb, hm, rfl⟩ | ⟨hm, rfl⟩
  · rcases Nat.lt_trichotomy k l with h | h | h
    · exact absurd hb (hn l h hl)
    · rw [h]
    · exact absurd ha (hm k h hk)
  · exact absurd ha (hm k hk)
  · exact absurd hb (hn l hl)
  · rfl

theorem critF_uniq {n : Int} {X Y : F} {r s : Int × Int} (h1 : critF n X Y r) (h2 : critF n X Y s) : r = s := by
  unfold critF at h1 h2
  split at h1
  · rename_i hc
    rw [if_pos hc] at h2
    obtain ⟨m, rfl, hm⟩ := h1
    obtain ⟨l, rfl, hl⟩ := h2
    rw [critR_uniq hm hl]
  · rename_i hc
    rw [if_neg hc] at h2
    rw [h1, h2]
end Go.Proofs.YtjjefdkadgkhfaaGreat
