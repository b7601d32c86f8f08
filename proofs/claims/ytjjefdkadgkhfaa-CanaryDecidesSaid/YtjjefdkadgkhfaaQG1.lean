/- Walks of the statements' own functions on rollouts by small numbers: part, outcomes. -/
import Derived.Test.YtjjefdkadgkhfaaK23
import Derived.Test.YtjjefdkadgkhfaaK27
set_option linter.unusedVariables false
namespace Go.Proofs.Ytjjefdkadgkhfaa
open Go.RowKit

set_option maxRecDepth 100000 in
set_option maxHeartbeats 4000000 in
theorem part_c (w : World) (a b : Nat) (ha : a < 256) (hb : b < 256) : Calls Try.prog 9 #[.agg #[.int .u8 (a : Int), .int .u8 (b : Int)]] w (RetF1 w (ofF ((a % (b % 30 + 2) : Nat) : Int) ((b % 30 + 1 : Nat) : Int)).1) := by
  obtain ⟨W0, hW, bx, br, hsz, hb0⟩ : ∃ W0, W0 = (w.alloc (.cells #[.int .u8 (a : Int), .int .u8 (b : Int)] 23)).alloc (.cells #[.bool false, .slice none 0 0, .slice none 0 0] 30) ∧ Box W0 w.heap.size #[.int .u8 (a : Int), .int .u8 (b : Int)] 23 ∧ Box W0 (w.heap.size + 1) #[.bool false, .slice none 0 0, .slice none 0 0] 30 ∧ W0.heap.size = w.heap.size + 2 ∧ Below w.heap.size w W0 := by
    refine ⟨_, rfl, (Box.new w _ _).alloc _, ?_, by simp, held_alloc (held_alloc (Below.refl _ w))⟩
    have := Box.new (w.alloc (.cells #[.int .u8 (a : Int), .int .u8 (b : Int)] 23)) #[.bool false, .slice none 0 0, .slice none 0 0] 30
    simpa using this
  have x0 : W0.cell? ⟨w.heap.size, 0, none⟩ = some (.int .u8 (a : Int)) := bx.cell 0
  have x1 : W0.cell? ⟨w.heap.size, 1, none⟩ = some (.int .u8 (b : Int)) := bx.cell 1
  have HB0 := Lib.hid hb0
  have BR := Lib.hid br
  obtain ⟨o, ho⟩ : ∃ o, (ofF ((a % (b % 30 + 2) : Nat) : Int) ((b % 30 + 1 : Nat) : Int)).1 = o := ⟨_, rfl⟩
  rw [ho]
  have e1 : ((a % (b % 30 + 2) : Nat) : Int) = (a : Int) % (1 + (b : Int) % 30 + 1) := by
    have : (1 + (b : Int) % 30 + 1) = ((b % 30 + 2 : Nat) : Int) := by omega
    rw [this]; rfl
  have e2 : ((b % 30 + 1 : Nat) : Int) = 1 + (b : Int) % 30 := by omega
  have hlt : a % (b % 30 + 2) < 300 := Nat.lt_of_le_of_lt (Nat.mod_le _ _) (by omega)
  have g0 : Hid (-9223372036854775808 ≤ (a : Int) % (1 + (b : Int) % 30 + 1)) := by show _ ≤ _; omega
  have g1 : Hid ((a : Int) % (1 + (b : Int) % 30 + 1) ≤ 9223372036854775807) := by show _ ≤ _; omega
  have HO := Lib.hid (show (ofF ((a : Int) % (1 + (b : Int) % 30 + 1)) (1 + (b : Int) % 30)).1 = o by rw [← ho, e1, e2])
  clear hb0 br bx e1 e2 hlt ho
  go_enter Try.func9, Try.ntmps9
  go_upto_region 1 with fail
  rw [← hW]
  clear hW
  go_wp2_with fail
  refine (of32_c _ ((a : Int) % (1 + (b : Int) % 30 + 1)) (1 + (b : Int) % 30) g0.out g1.out (by omega) (by omega)).mono ?_
  rw [HO.out]
  obtain ⟨neg, A, B⟩ := o
  rintro e w1 ⟨v, rfl, hv, hb1⟩
  obtain ⟨va, vb, rfl, h1, h2⟩ := hv
  simp only at h1 h2
  have bx1 := BR.out.after hb1
  obtain ⟨r0, r1, r2⟩ := bx1.cells3
  have f0 := bx1.frozen 0
  have f1 := bx1.frozen 1
  have f2 := bx1.frozen 2
  have hlt := bx1.lt
  have BX1 := Lib.hid bx1
  have HV1 := Lib.hid h1
  have HV2 := Lib.hid h2
  obtain ⟨p, cp, rfl, _, _⟩ := h1.shape
  obtain ⟨q, cq, rfl, _, _⟩ := h2.shape
  have HB1 := Lib.hid (HB0.out.trans (hb1.mono HB0.out.size))
  clear bx1 h1 h2 hb1 x0 x1
  go_wp2_with fail
  obtain ⟨e0, e1, e2⟩ := (end_box BX1.out (y0 := .bool neg) (y1 := .slice p A.length cp) (y2 := .slice q B.length cq)).cells3
  refine bodyPost_ret (v := .agg #[.bool neg, .slice p A.length cp, .slice q B.length cq]) (by simp [results, Try.results9, go_sem, e0, e1, e2]) rfl ?_
  exact retF1_end (x := ⟨neg, A, B⟩) HB1.out BX1.out (fun _ h => by cases h) (fun _ h => by cases h) (Nat.le_succ _) HV1.out HV2.out

theorem and_one_bit {bits : Nat} (hb : bits < 65536) (i : Nat) : (Go.bits BinOp.and IntKind.u16 ((bits : Int) / 2 ^ i) 1 == 1) = decide (bits / 2 ^ i % 2 = 1) := by
  have hx : ((bits : Int) / 2 ^ i) = ((bits / 2 ^ i : Nat) : Int) := by push_cast; rfl
  have hlt : bits / 2 ^ i < 65536 := Nat.lt_of_le_of_lt (Nat.div_le_self _ _) hb
  rw [hx]
  generalize bits / 2 ^ i = m at *
  have h := bits_mask .u16 16 (by decide) (fun n h0 h1 => by rw [IntKind.wrap_u16]; omega) 1 (by decide) ((m : Int)) (by omega) (by omega)
  have e : ((2 : Int) ^ 1 - 1) = 1 := by decide
  have e2 : ((2 : Int) ^ 1) = 2 := by decide
  rw [e, e2] at h
  rw [h]
  by_cases h1 : m % 2 = 1
  · rw [decide_eq_true h1, beq_iff_eq]; omega
  · rw [decide_eq_false h1, beq_eq_false_iff_ne]; omega
theorem bitsL_snoc (n b : Nat) : bitsL (n + 1) b = bitsL n b ++ [decide (b / 2 ^ n % 2 = 1)] := by
  unfold bitsL
  rw [List.range_succ, List.map_append]
  rfl
set_option pp.deepTerms true in
set_option maxRecDepth 100000 in
set_option maxHeartbeats 4000000 in
theorem outcomes_c (w : World) (n bits : Nat) (hn : n ≤ 16) (hb : bits < 65536) : Calls Try.prog 16 #[.int .i64 (n : Int), .int .u16 (bits : Int)] w fun e w' => ∃ v, e = .returned v ∧ SlB w' v (bitsL n bits) ∧ Below w.heap.size w w' := by
  obtain ⟨i0, hi, hz0, hz1, hz2⟩ := info_parts infoBool
  have hlm : maxLen = 9223372036854775807 := rfl
  have HLM := Lib.hid hlm
  clear hlm
  go_enter Try.func16, Try.ntmps16
  go_wp2_with fail
  go_loopg [5, 8] n (fun g v t wx => ∃ i : Nat, i ≤ n ∧ g = n - i ∧ t = .int .i64 (i : Int) ∧ Hid (wx.ownsRow w.heap.size 4 1 v i ((bitsL i bits).map Value.bool)) ∧ Hid (Below w.heap.size w wx))
  case atStart => exact ⟨0, Nat.zero_le _, rfl, rfl, ⟨rfl, .inl ⟨rfl, rfl⟩⟩, Below.refl _ _⟩
  case round =>
    obtain ⟨i, hin, rfl, rfl, hown, hbl⟩ := hrel
    by_cases hlt : i < n
    · have il : (i : Int) < (n : Int) := by omega
      obtain ⟨p, c, rfl⟩ := ownsRow_shape hown.out
      have hbit : (Go.bits BinOp.and IntKind.u16 ((bits : Int) / 2 ^ i) 1 == 1) = decide (bits / 2 ^ i % 2 = 1) := and_one_bit hb i
      have hsz := hbl.out.size
      go_wp2_with (at_builtin; refine wpList_append_own _ rfl _ _ 44 rfl w.heap.size 4 i0 (.bool false) 1 1 Try.underlying44 hi hz0 hz1 hz2 rfl (by decide) _ _ _ rfl (hown.out.alloc _) ⟨wr.heap.size, 0, none⟩ 1 1 [.bool (decide (bits / 2 ^ i % 2 = 1))] rfl rfl cell_one (by intro u hu; simp at hu; subst hu; rfl) ?c4 ?c5 ?c6 ?_)
      case c4 => rw [HLM.out]; omega
      case c5 => omega
      case c6 => simp; omega
      intro v' w5 hown' hgrow _
      have HO5 : Hid (w5.ownsRow w.heap.size 4 1 v' (i + 1) ((bitsL (i + 1) bits).map Value.bool)) := by
        show World.ownsRow _ _ _ _ _ _ _
        rw [bitsL_snoc, List.map_append]
        exact hown'
      have HB5 := Lib.hid ((hbl.out.alloc hsz (.cells #[.bool (decide (bits / 2 ^ i % 2 = 1))] 4)).grown hgrow (Nat.le_trans hsz (by simp)) (fun g e => ((ownsRow_ge hown.out) g e).1))
      clear hown' hgrow hown hbl hbit
      go_wp2_with fail
      go_roundg (n - (i + 1))
      case measure => omega
      case rel => exact ⟨i + 1, by omega, rfl, by go_num, HO5.out, HB5.out⟩
    · obtain rfl : i = n := by omega
      obtain ⟨p, c, rfl⟩ := ownsRow_shape hown.out
      have hs := Lib.hid (SlV.of_own hown.out).1
      clear hown
      go_wp2_with fail
      go_ret
      exact ⟨_, rfl, hs.out, hbl.out⟩
end Go.Proofs.Ytjjefdkadgkhfaa
