/- Walks of package ratio: decimal. -/
import Derived.Test.YtppehiajocgiiaaQD1
import Derived.Test.YtppehiajocgiiaaK02
import Derived.Test.YtppehiajocgiiaaK08
import Derived.Laws.IdiomStrings
set_option linter.unusedVariables false
namespace Go.Proofs.Ytppehiajocgiiaa
open Go.RowKit

theorem info8 : (Try.prog.info? 5).map (fun i => (i.zero, i.size, i.bytes)) = some (some (.int .u8 0), 1, 1) := by kernel_rfl
theorem Row8.of_own {w : World} {base n g cap : Nat} {l : List Nat} (h : w.ownsRow base 5 1 (.slice (some ⟨g, 0, none⟩) n cap) n (l.map u8v)) : Row8 w g l := by
  rcases h.2 with ⟨h0, _⟩ | ⟨g', cap', cur, e, _, hg, _, _, hs, ht⟩
  · cases h0
  · obtain ⟨rfl, rfl⟩ : g = g' ∧ cap = cap' := by
      injection e with e1 _ e3
      injection e1 with e1
      injection e1 with e1 _ _
      exact ⟨e1, e3⟩
    refine ⟨cur.toList.drop n, ?_⟩
    rw [hg]
    congr 2
    apply Array.ext'
    rw [← ht, Nat.mul_one]
    simp

set_option maxRecDepth 100000 in
set_option maxHeartbeats 4000000 in
theorem decimal_c (w : World) (v : Value) (n : Nat) (h : Sl w v (limbs n)) (hl : (limbs n).length ≤ 1000) :
    Calls Try.prog 63 #[v] w fun e w' => e = .returned (.string (decS n)) ∧ Below w.heap.size w w' := by
  obtain ⟨p, cp, rfl, hp1, hp2⟩ := h.shape
  have H := Lib.hid h
  obtain ⟨i0, hi, hz0, hz1, hz2⟩ := info_parts info8
  have hlm : Hid (maxLen = 9223372036854775807) := rfl
  clear h
  rcases Nat.eq_zero_or_pos n with h0 | h0
  · subst h0
    have hs : Hid (decS 0 = ⟨#[48]⟩) := by show _ = _; unfold decS; rw [if_pos rfl]
    clear H hl
    rw [limbs_zero]
    go_enter Try.func63, Try.ntmps63
    go_wp2_with fail
    go_ret
    exact ⟨by rw [hs.out]; rfl, Below.refl _ _⟩
  · have hpos : 0 < (limbs n).length := limbs_len_pos h0
    have hb8 : (((limbs n).length : Int) == 0) = false := beq_eq_false_iff_ne.2 (by omega)
    go_enter Try.func63, Try.ntmps63
    go_wp2
    go_loopg [0, 3] n (fun g ta tq wx => ∃ (m : Nat) (pa : Option Addr) (ca : Nat) (l : List Nat), m ≤ n ∧ g = m ∧ ta = .slice pa (limbs m).length ca ∧ Hid (Sl wx (.slice pa (limbs m).length ca) (limbs m)) ∧ Hid (wx.ownsRow w.heap.size 5 1 tq l.length (l.map u8v)) ∧ Hid (l ++ revd m = revd n) ∧ Hid (Below w.heap.size w wx))
    case atStart => exact ⟨n, p, cp, [], Nat.le_refl _, rfl, rfl, H.out, ⟨rfl, .inl ⟨rfl, rfl⟩⟩, rfl, Below.refl _ _⟩
    case round =>
      obtain ⟨m, pa, ca, l, hmn, hgm, rfl, hs0, hown0, hrel0, hbl0⟩ := hrel
      obtain rfl := hgm.symm
      have hlm2 : Hid ((limbs m).length ≤ 1000) := Nat.le_trans (limbs_len_mono hmn) hl
      by_cases hm0 : 0 < m
      · obtain ⟨wo, rfl⟩ : ∃ wo : World, wo = wr := ⟨_, rfl⟩
        have hmp : 0 < (limbs m).length := limbs_len_pos hm0
        go_wp2_with fail
        refine (short_c _ _ (limbs m) 1000000000  hs0.out (by omega) (by omega) (by have := hlm2.out; omega)).mono ?_
        rw [val_limbs]
        obtain ⟨q, hq⟩ : ∃ q, m / 1000000000 = q := ⟨_, rfl⟩
        obtain ⟨r, hr⟩ : ∃ r, m % 1000000000 = r := ⟨_, rfl⟩
        rw [hq, hr]
        have hqm : q < m := by omega
        have hrb : r < 1000000000 := by omega
        have hval : Hid (l ++ revd (q * 10 ^ 9 + r) = revd n) := by
          show _ = _
          rw [← hrel0.out]
          congr 2
          omega
        clear hq hr
        rintro e w1 ⟨v1, rfl, hv1, hb1⟩
        obtain ⟨pq, cq, rfl, _, _⟩ := hv1.shape
        have HV := Lib.hid hv1
        have HO1 := Lib.hid (ownsRow_after hown0.out hb1)
        have HB1 := Lib.hid (hbl0.out.trans (hb1.mono hbl0.out.size))
        clear hv1 hb1 hmp
        go_wp2_with fail
        go_loopg [3, 4, 5] 9 (fun g tq td tk wi => ∃ (k d : Nat) (l : List Nat), k ≤ 9 ∧ g = 9 - k ∧ td = .int .u32 (d : Int) ∧ tk = .int .i64 (k : Int) ∧ Hid (d < 10 ^ (9 - k)) ∧ Hid (wi.ownsRow w.heap.size 5 1 tq l.length (l.map u8v)) ∧ Hid (l ++ revd (q * 10 ^ (9 - k) + d) = revd n) ∧ Hid (Sl wi (.slice pq (limbs q).length cq) (limbs q)) ∧ Hid (Below w.heap.size w wi))
        case atStart => exact ⟨0, r, l, Nat.zero_le _, rfl, rfl, rfl, hrb, HO1.out, hval.out, HV.out, HB1.out⟩
        case round =>
          clear hs0 hown0 hrel0 hbl0 HV HO1 HB1 hval
          obtain ⟨k, d, l, hk9, rfl, rfl, rfl, hd, hown, hrel, hs, hbl⟩ := hrel
          have hlen : Hid (l.length ≤ 10000) := by
            show _ ≤ _
            have h1 := congrArg List.length hrel.out
            rw [List.length_append] at h1
            have h2 := revd_limbs (n := n)
            omega
          by_cases hk : k < 9
          · have hdb : d < 4294967296 := by
              have h1 := hd.out
              have h2 : 10 ^ (9 - k) ≤ 10 ^ 9 := Nat.pow_le_pow_right (by omega) (by omega)
              omega
            by_cases hq0 : 0 < q
            · have hql : 0 < (limbs q).length := limbs_len_pos hq0
              go_wp2_with (at_builtin; refine wpList_append_own _ rfl _ _ 98 rfl w.heap.size 5 i0 (.int .u8 0) 1 1 Try.underlying98 hi hz0 hz1 hz2 rfl (by decide) _ _ _ rfl (hown.out.alloc _) ⟨wr.heap.size, 0, none⟩ 1 1 [.int .u8 (48 + (d : Int) % 10)] rfl rfl ?c1 ?c2 ?c3 ?c4 ?c5 ?_)
              case c1 => exact cell_one_new _ _ _
              case c2 => simp [Value.oneCell']
              case c3 => rw [hlm.out]; have := hlen.out; omega
              case c4 => have := hlen.out; omega
              case c5 => have := hbl.out.size; simp; omega
              intro v' w2 hown2 hgrow _
              have hO2 : Hid (w2.ownsRow w.heap.size 5 1 v' (l ++ [48 + d % 10]).length ((l ++ [48 + d % 10]).map u8v)) := by
                show World.ownsRow _ _ _ _ _ _ _
                rw [List.length_append, List.map_append]
                exact hown2
              have hb2 := (Below.refl wr.heap.size wr).alloc (Nat.le_refl _) (.cells #[.int .u8 (48 + (d : Int) % 10)] 5)
              have htag := ownsRow_tag (ownsRow_after hown.out hb2) (show 5 ≠ 49 by decide)
              have hS2 := Lib.hid ((hs.out.after hb2).grown hgrow htag)
              have hB2 : Hid (Below w.heap.size w w2) := (hbl.out.trans (hb2.mono hbl.out.size)).grown hgrow (by have := hbl.out.size; simp; omega) (fun k hk => (hown.out.lt k hk).1)
              have hdn : Hid (d / 10 < 10 ^ (9 - (k + 1))) := by
                show _ < _
                have := hd.out
                rw [show 9 - k = (9 - (k + 1)) + 1 by omega, Nat.pow_succ] at this
                omega
              have hRn : Hid ((l ++ [48 + d % 10]) ++ revd (q * 10 ^ (9 - (k + 1)) + d / 10) = revd n) := by
                show _ = _
                rw [← hrel.out, show 9 - k = (9 - (k + 1)) + 1 by omega, revd_step (by have := Nat.mul_pos hq0 (Nat.pow_pos (n := 9 - (k + 1) + 1) (show 0 < 10 by omega)); omega)]
                simp
              clear hown2 hgrow htag hb2
              go_wp2_with fail
              go_roundg (9 - (k + 1))
              case measure => omega
              case rel => exact ⟨k + 1, d / 10, _, by omega, rfl, by go_num, by go_num, hdn.out, hO2.out, hRn.out, hS2.out, hB2.out⟩
            · by_cases hd0 : 0 < d
              · have hql : (limbs q).length ≤ 0 := by rw [show q = 0 by omega, limbs_zero]; exact Nat.le_refl 0
                go_wp2_with (at_builtin; refine wpList_append_own _ rfl _ _ 98 rfl w.heap.size 5 i0 (.int .u8 0) 1 1 Try.underlying98 hi hz0 hz1 hz2 rfl (by decide) _ _ _ rfl (hown.out.alloc _) ⟨wr.heap.size, 0, none⟩ 1 1 [.int .u8 (48 + (d : Int) % 10)] rfl rfl ?c1 ?c2 ?c3 ?c4 ?c5 ?_)
                case c1 => exact cell_one_new _ _ _
                case c2 => simp [Value.oneCell']
                case c3 => rw [hlm.out]; have := hlen.out; omega
                case c4 => have := hlen.out; omega
                case c5 => have := hbl.out.size; simp; omega
                intro v' w2 hown2 hgrow _
                have hO2 : Hid (w2.ownsRow w.heap.size 5 1 v' (l ++ [48 + d % 10]).length ((l ++ [48 + d % 10]).map u8v)) := by
                  show World.ownsRow _ _ _ _ _ _ _
                  rw [List.length_append, List.map_append]
                  exact hown2
                have hb2 := (Below.refl wr.heap.size wr).alloc (Nat.le_refl _) (.cells #[.int .u8 (48 + (d : Int) % 10)] 5)
                have htag := ownsRow_tag (ownsRow_after hown.out hb2) (show 5 ≠ 49 by decide)
                have hS2 := Lib.hid ((hs.out.after hb2).grown hgrow htag)
                have hB2 : Hid (Below w.heap.size w w2) := (hbl.out.trans (hb2.mono hbl.out.size)).grown hgrow (by have := hbl.out.size; simp; omega) (fun k hk => (hown.out.lt k hk).1)
                have hdn : Hid (d / 10 < 10 ^ (9 - (k + 1))) := by
                  show _ < _
                  have := hd.out
                  rw [show 9 - k = (9 - (k + 1)) + 1 by omega, Nat.pow_succ] at this
                  omega
                have hRn : Hid ((l ++ [48 + d % 10]) ++ revd (q * 10 ^ (9 - (k + 1)) + d / 10) = revd n) := by
                  show _ = _
                  rw [← hrel.out, show 9 - k = (9 - (k + 1)) + 1 by omega, revd_step (by omega)]
                  simp
                clear hown2 hgrow htag hb2
                go_wp2_with fail
                go_roundg (9 - (k + 1))
                case measure => omega
                case rel => exact ⟨k + 1, d / 10, _, by omega, rfl, by go_num, by go_num, hdn.out, hO2.out, hRn.out, hS2.out, hB2.out⟩
              · have hql : (limbs q).length ≤ 0 := by rw [show q = 0 by omega, limbs_zero]; exact Nat.le_refl 0
                have hfin : Hid (l ++ revd q = revd n) := by
                  have := hrel.out
                  rw [show d = 0 by omega, show q = 0 by omega] at this
                  show _ = _
                  rw [show q = 0 by omega]
                  simpa using this
                have hdz : d ≤ 0 := by omega
                go_wp2_with fail
                go_roundg q
                case measure => omega
                case rel => exact ⟨q, pq, cq, l, by omega, rfl, rfl, hs.out, hown.out, hfin.out, hbl.out⟩
          · have hfin : Hid (l ++ revd q = revd n) := by
              have h1 := hrel.out
              have h2 := hd.out
              rw [show 9 - k = 0 by omega] at h1 h2
              show _ = _
              rw [show d = 0 by omega] at h1
              simpa using h1
            have hk9' : 9 ≤ (k : Int) := by omega
            go_wp2_with fail
            go_roundg q
            case measure => omega
            case rel => exact ⟨q, pq, cq, l, by omega, rfl, rfl, hs.out, hown.out, hfin.out, hbl.out⟩
      · obtain rfl : m = 0 := by omega
        have hfin : Hid (l = revd n) := by
          have := hrel0.out
          rw [revd_zero, List.append_nil] at this
          exact this
        have hl0 : 0 < l.length := by rw [hfin.out, revd_pos h0]; simp
        obtain ⟨gb, cap, hu, hc1, hc2⟩ : ∃ gb cap, u3 = .slice (some ⟨gb, 0, none⟩) l.length cap ∧ l.length ≤ cap ∧ cap ≤ 9223372036854775807 := by
          rcases hown0.out.2 with ⟨_, h1⟩ | ⟨gb, cap, _, h1, _, _, h2, h3, _⟩
          · omega
          · exact ⟨gb, cap, h1, h2, h3⟩
        have hown1 : wr.ownsRow w.heap.size 5 1 u3 l.length (l.map u8v) := hown0.out
        clear hown0
        subst hu
        have hge : w.heap.size ≤ gb := (hown1.lt gb rfl).1
        have hR := Lib.hid (Row8.of_own hown1)
        have hlz : (limbs 0).length ≤ 0 := by rw [limbs_zero]; exact Nat.le_refl 0
        clear hown1 hs0 hrel0
        go_wp2_with fail
        refine (reverse_c _ gb cap l hR.out hl0 hc1 hc2).mono ?_
        rintro e w2 ⟨⟨v, rfl⟩, hrow, hb2⟩
        have HR2 := Lib.hid hrow
        have HB2 : Hid (Below w.heap.size w w2) := hbl0.out.trans (hb2.mono hge)
        have hstr : Hid (∀ j (hj : j < (l.reverse.map UInt8.ofNat).length), w2.cell? ((⟨gb, 0, none⟩ : Addr).add j) = some (.int .u8 ((l.reverse.map UInt8.ofNat)[j].toNat : Int))) := by
          intro j hj
          have hj' : j < l.reverse.length := by simpa using hj
          have hadd : (⟨gb, 0, none⟩ : Addr).add j = ⟨gb, j, none⟩ := by unfold Addr.add; split <;> simp_all
          have hx := revd_lt n (l.reverse[j]) (by rw [← hfin.out]; exact List.mem_reverse.1 (List.getElem_mem hj'))
          rw [hadd, hrow.cell hj', lim_get hj']
          simp only [List.getElem_map, UInt8.toNat_ofNat']
          congr 2
          omega
        have hconv := run_convert_bytes_back (P := Try.prog) w2 98 9 5 ⟨gb, 0, none⟩ cap (l.reverse.map UInt8.ofNat) Try.underlying98 Try.underlying5 Try.underlying9 hstr.out
        rw [List.length_map, List.length_reverse] at hconv
        have hdec : Hid ((⟨((l.reverse.map UInt8.ofNat)).toArray⟩ : ByteArray) = decS n) := by
          show _ = _
          unfold decS
          rw [if_neg (by omega), hfin.out]
        rw [hdec.out] at hconv
        clear hrow hb2
        go_wp2_with fail
        go_ret
        exact ⟨rfl, HB2.out⟩
end Go.Proofs.Ytppehiajocgiiaa
