/- Walks of the reference: digits. -/
import Derived.Test.YtaojdlcailpheaaQVT
import Derived.Test.YtaojdlcailpheaaQV11
set_option linter.unusedVariables false
namespace Go.Proofs.Ytaojdlcailpheaa
open Go.RowKit

/-- What the reference's digits returns. -/
def RetDr (w : World) (l : List UInt8) (e : Ending) (w' : World) : Prop := ∃ v, e = .returned (.tuple #[v, .bool (decide (digN 0 l ≠ none))]) ∧ Sl w' v (limbs ((digN 0 l).getD 0)) ∧ Below w.heap.size w w'
set_option maxRecDepth 100000 in
set_option maxHeartbeats 4000000 in
theorem rdigits_c (l : List UInt8) (w : World) (hl : l.length ≤ 9223372036854775807) : Calls Try.prog 56 #[.string (bs l)] w (RetDr w l) := by
  show Calls _ _ #[.string ⟨l.toArray⟩] _ _
  have hs : (⟨l.toArray⟩ : ByteArray).size = l.length := rfl
  obtain ⟨R, hR⟩ : ∃ R, digN 0 l = R := ⟨_, rfl⟩
  unfold RetDr
  rw [hR]
  have HR0 : Hid (digN 0 (l.drop 0) = R) := hR
  clear hR
  go_enter Try.func56, Try.ntmps56
  go_wp2_with fail
  go_loopg [4, 5] (l.length) (fun g v t wx => ∃ (k a : Nat), k ≤ l.length ∧ g = l.length - k ∧ t = .int .i64 (k : Int) ∧ (limbs a).length ≤ 34 ∧ Hid (Sl wx v (limbs a)) ∧ Hid (digN a (l.drop k) = R) ∧ Hid (Below w.heap.size w wx))
  case atStart => exact ⟨0, 0, Nat.zero_le _, rfl, rfl, by rw [limbs_zero]; simp, by show Sl _ _ _; rw [limbs_zero]; exact Sl.nil _, HR0.out, Below.refl _ _⟩
  case round =>
    obtain ⟨k, a, hk, rfl, rfl, ha, hsl, hr, hb⟩ := hrel
    clear HR0
    obtain ⟨p, c, rfl, h1, h2⟩ := hsl.out.shape
    by_cases hlt : k < l.length
    · obtain ⟨q, hq⟩ : ∃ q, ((⟨l.toArray⟩ : ByteArray)[k]'hlt).toNat = q := ⟨_, rfl⟩
      have hq' : l[k].toNat = q := hq
      have hq256 : q < 256 := by rw [← hq]; exact UInt8.toNat_lt _
      by_cases hd : (48 ≤ q ∧ q ≤ 57) ∧ (limbs a).length ≤ 32
      · obtain ⟨⟨d1, d2⟩, d3⟩ := hd
        have hnx : Hid (digN (10 * a + (q - 48)) (l.drop (k + 1)) = R) := by
          have := hr.out
          rw [digN_next hlt (by rw [hq']; exact ⟨d1, d2⟩) d3, hq'] at this
          exact this
        have hln := dig_len d3 (show q - 48 ≤ 9 by omega)
        have b1 : decide ((q : Int) < 48) = false := decide_eq_false (by omega)
        have b2 : decide ((57 : Int) < (q : Int)) = false := decide_eq_false (by omega)
        have b3 : decide ((32 : Int) < ((limbs a).length : Int)) = false := decide_eq_false (by omega)
        have b4 : decide (q < 48) = false := decide_eq_false (by omega)
        have b5 : decide (57 < q) = false := decide_eq_false (by omega)
        have b6 : decide (32 < (limbs a).length) = false := decide_eq_false (by omega)
        have hw1 : IntKind.u8.wrap ((q : Int) - 48) = (q : Int) - 48 := by rw [IntKind.wrap_u8]; omega
        have hw2 : IntKind.u64.wrap ((q : Int) - 48) = (q : Int) - 48 := by rw [IntKind.wrap_u64]; omega
        obtain ⟨r, hqr⟩ : ∃ r, q - 48 = r := ⟨_, rfl⟩
        rw [hqr] at hnx hln
        have hzr : (q : Int) - 48 = (r : Int) := by omega
        have HZ := Lib.hid hzr
        have hr9 : r ≤ 9 := by omega
        have hsr : Hid (Sl (wr.alloc (.cells #[.int .u32 10] 51)).drew (.slice p (limbs a).length c) (limbs a)) := hsl.out.after (below_dr (held_alloc (Below.refl _ wr)))
        have hten : Hid (Sl (wr.alloc (.cells #[.int .u32 10] 51)).drew (.slice (some ⟨wr.heap.size, 0, none⟩) 1 1) (limbs 10)) := by
          show Sl _ _ _
          rw [limbs_ten]
          exact Sl.drew (Sl.of_row (l := [10]) (Row32.lit1 wr 10 10 rfl) (Lb.cons (by omega) Lb.nil) (by simp) (by omega))
        have hl0 : (limbs 10).length ≤ 1000000 := by rw [limbs_ten]; simp
        have hl1 : (limbs (a * 10)).length ≤ 1000000 := by
          have h1 := limbs_mul_len a 10
          rw [limbs_ten] at h1
          simp only [List.length_cons, List.length_nil] at h1
          omega
        have hl2 : (limbs r).length ≤ 1000000 := Nat.le_trans (limbs_len_lt (k := 1) (by omega)) (by omega)
        have hla : (limbs a).length ≤ 1000000 := by omega
        have hr18 : r < 18446744073709551616 := by omega
        clear hq' hr d1 d2 hqr hzr
        go_upto_region 7 with fail
        clear b1 b2 b3 b4 b5 b6
        go_region_with (first
          | (go_at_call 70; refine (Product_n _ _ _ a 10 hsr.out hten.out hla hl0).mono ?_; rintro e w1 ⟨v1, rfl, hv1, hb1⟩; have hk1 : Below wr.heap.size wr w1 := (below_dr (held_alloc (Below.refl _ wr))).trans (hb1.mono (below_dr (held_alloc (o := .cells #[.int .u32 10] 51) (Below.refl wr.heap.size wr))).size))
          | (go_at_call 51; refine (From_i _ r HZ.out hr18 _).mono ?_; rintro e w2 ⟨v2, rfl, hv2, hb2⟩; have hk2 : Below wr.heap.size wr w2 := hk1.trans (hb2.mono hk1.size))
          | (go_at_call 78; refine (Sum_n _ _ _ (a * 10) r (hv1.after hb2) hv2 hl1 hl2).mono ?_; rintro e w3 ⟨v3, rfl, hv3, hb3⟩; have hk3 : Below wr.heap.size wr w3 := hk2.trans (hb3.mono hk2.size))
          | (fail))
        all_goals
          (have HV3 : Hid (Sl w3 v3 (limbs (10 * a + r))) := by have := hv3; rwa [Nat.mul_comm a 10] at this
           have HB3 := Lib.hid (hb.out.trans (hk3.mono hb.out.size))
           clear hv1 hv2 hv3 hb1 hb2 hb3 hk1 hk2 hk3 hsr hten hl1 hl2
           go_wp2_with fail
           go_roundg (l.length - (k + 1))
           case measure => omega
           case rel => exact ⟨k + 1, 10 * a + r, by omega, rfl, by go_num, hln, HV3.out, hnx.out, HB3.out⟩)
      · have hnone : Hid (R = none) := by
          have := hr.out
          rw [digN_stop hlt (by rw [hq']; exact hd)] at this
          exact this.symm
        clear hr hq'
        rcases (show q < 48 ∨ (48 ≤ q ∧ 57 < q) ∨ (48 ≤ q ∧ q ≤ 57 ∧ 32 < (limbs a).length) by omega) with hc | hc | hc
        · have b1 : decide ((q : Int) < 48) = true := decide_eq_true (by omega)
          have n1 : decide (q < 48) = true := decide_eq_true (by omega)
          clear hd
          go_wp2_with fail
          go_ret2
          rw [hnone.out]
          refine ⟨.slice none 0 0, by simp, ?_, hb.out⟩
          show Sl _ _ (limbs 0)
          rw [limbs_zero]; exact Sl.nil _
        · have b1 : decide ((q : Int) < 48) = false := decide_eq_false (by omega)
          have n1 : decide (q < 48) = false := decide_eq_false (by omega)
          have b2 : decide ((57 : Int) < (q : Int)) = true := decide_eq_true (by omega)
          have n2 : decide (57 < q) = true := decide_eq_true (by omega)
          clear hd
          go_wp2_with fail
          go_ret2
          rw [hnone.out]
          refine ⟨.slice none 0 0, by simp, ?_, hb.out⟩
          show Sl _ _ (limbs 0)
          rw [limbs_zero]; exact Sl.nil _
        · have b1 : decide ((q : Int) < 48) = false := decide_eq_false (by omega)
          have n1 : decide (q < 48) = false := decide_eq_false (by omega)
          have b2 : decide ((57 : Int) < (q : Int)) = false := decide_eq_false (by omega)
          have n2 : decide (57 < q) = false := decide_eq_false (by omega)
          have b3 : decide ((32 : Int) < ((limbs a).length : Int)) = true := decide_eq_true (by omega)
          have n3 : decide (32 < (limbs a).length) = true := decide_eq_true (by omega)
          clear hd
          go_wp2_with fail
          go_ret2
          rw [hnone.out]
          refine ⟨.slice none 0 0, by simp, ?_, hb.out⟩
          show Sl _ _ (limbs 0)
          rw [limbs_zero]; exact Sl.nil _
    · obtain rfl : k = l.length := by omega
      have hz : Hid (R = some a) := by
        have := hr.out
        rw [List.drop_length] at this
        exact this.symm
      clear hr
      go_wp2_with fail
      go_ret2
      rw [hz.out]
      exact ⟨_, by simp, hsl.out, hb.out⟩
end Go.Proofs.Ytaojdlcailpheaa
