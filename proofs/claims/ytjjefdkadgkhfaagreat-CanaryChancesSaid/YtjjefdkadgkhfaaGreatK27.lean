/- Walks of the reference's canary: Valid, goesOn.
   Walks of the reference's canary: Next.
   The statements on rollouts, what they share: variables of rollouts and decisions behind stores; an argument's row of bools cut. -/
import Derived.Test.YtjjefdkadgkhfaaGreatK21
import Derived.Test.YtjjefdkadgkhfaaGreatK26
import Derived.Test.YtjjefdkadgkhfaaGreatK19
import Derived.Test.YtjjefdkadgkhfaaGreatK22
set_option linter.unusedVariables false
namespace Go.Proofs.YtjjefdkadgkhfaaGreat
open Go.RowKit

set_option maxRecDepth 100000 in
set_option maxHeartbeats 4000000 in
theorem rcValid_c (w : World) (v : Value) (R : Ro) (h : IsR w v R) (hbig : R.waves.length ≤ 1000000) : Calls Tryz.prog 12 #[v] w (RetC w (ValidR R)) := by
  obtain ⟨p0, p1, p2, p3, p4, p5, k0, k1, k2, k3, k4, k5, rfl, h0, h1, h2, h3⟩ := h.open
  obtain ⟨W0, hW, bx, hb0⟩ : ∃ W0, W0 = w.alloc (.cells #[.slice p0 R.hosts.length k0, .slice p1 R.waves.length k1, .bool R.rate.neg, .slice p2 R.rate.num.length k2, .slice p3 R.rate.den.length k3, .bool R.bound.neg, .slice p4 R.bound.num.length k4, .slice p5 R.bound.den.length k5] 28) ∧
      Box W0 w.heap.size #[.slice p0 R.hosts.length k0, .slice p1 R.waves.length k1, .bool R.rate.neg, .slice p2 R.rate.num.length k2, .slice p3 R.rate.den.length k3, .bool R.bound.neg, .slice p4 R.bound.num.length k4, .slice p5 R.bound.den.length k5] 28 ∧ Below w.heap.size w W0 :=
    ⟨_, rfl, Box.new w _ _, held_alloc (Below.refl _ w)⟩
  have H0 := Lib.hid (h0.after hb0)
  have H1 := Lib.hid (h1.after hb0)
  have H2 := Lib.hid (h2.after hb0)
  have H3 := Lib.hid (h3.after hb0)
  have HB := Lib.hid hb0
  have BX := Lib.hid bx
  obtain ⟨b0, b1, b2, b3, b4, b5, b6, b7⟩ := bx.cells8
  have hin : Hid (∀ z ∈ R.hosts, In64 z) := h0.1
  have hinw : Hid (∀ z ∈ R.waves, In64 z) := h1.1
  obtain ⟨_, _, _, m1, m2, _⟩ := h0.shape
  have hhl : R.hosts.length ≤ 9223372036854775807 := by omega
  clear h h0 h1 h2 h3 hb0 bx m1 m2
  by_cases hl1 : 1 ≤ R.hosts.length
  · by_cases hl2 : R.hosts.length ≤ 16
    · go_enter Tryz.func12, Tryz.ntmps12
      go_upto_region 1 with fail
      rw [← hW]
      clear hW
      go_wp2_with fail
      go_loop [22] (fun t => ∃ k : Nat, k ≤ R.hosts.length ∧ t = .int .i64 (k : Int) ∧ Hid (HostsOk R k)) (fun t => R.hosts.length - (intOf t).toNat)
      case atStart => exact ⟨0, Nat.zero_le _, rfl, hostsOk_zero R⟩
      case round =>
        obtain ⟨k, hk, rfl, hok⟩ := hrel
        by_cases hlt : k < R.hosts.length
        · obtain ⟨b, off, rfl, hbl2, hc⟩ := H0.out.cells (by omega)
          have hck := hc k hlt
          have HC := Lib.hid hc
          have HK := Lib.hid hlt
          clear hc
          obtain ⟨x, hxe⟩ : ∃ x, ati R.hosts k = x := ⟨_, rfl⟩
          rw [hxe] at hck
          have HXE := Lib.hid hxe
          by_cases hr1 : 0 ≤ x
          · by_cases hr2 : x ≤ 15
            · clear hxe
              go_wp2_with fail
              go_loop [5] (fun t => ∃ j : Nat, j ≤ k ∧ t = .int .i64 (j : Int) ∧ Hid (x ∉ R.hosts.take j)) (fun t => k - (intOf t).toNat)
              case atStart => exact ⟨0, Nat.zero_le _, rfl, by show ¬ _; simp⟩
              case round =>
                obtain ⟨j, hj, rfl, hnm⟩ := hrel
                by_cases hjk : j < k
                · have hcj := HC.out j (by omega)
                  obtain ⟨y, hye⟩ : ∃ y, ati R.hosts j = y := ⟨_, rfl⟩
                  rw [hye] at hcj
                  have HYE := Lib.hid hye
                  clear hye
                  by_cases hyx : y = x
                  · have hb : (y == x) = true := by rw [beq_iff_eq]; exact hyx
                    have hno : Hid (¬ ValidR R) := by
                      refine hosts_twice HK.out ?_
                      rw [HXE.out, ← hyx, ← HYE.out, ati_get (by omega)]
                      exact List.mem_take_iff_getElem.2 ⟨j, by omega, rfl⟩
                    clear hyx
                    go_wp2_with fail
                    go_ret
                    exact ⟨false, rfl, ⟨(fun h => by cases h), fun h => absurd h hno.out⟩, HB.out⟩
                  · have hb : (y == x) = false := by rw [beq_eq_false_iff_ne]; exact hyx
                    have HNM : Hid (x ∉ R.hosts.take (j + 1)) := by
                      show ¬ _
                      rw [take_succ_ati (by omega), HYE.out, List.mem_append, List.mem_singleton]
                      rintro (h | h)
                      · exact hnm.out h
                      · exact hyx h.symm
                    clear hyx hnm
                    go_wp2_with fail
                    go_round
                    case measure => simp [intOf]; omega
                    case rel => exact ⟨j + 1, by omega, by go_num, HNM.out⟩
                · obtain rfl : j = k := by omega
                  have HOK : Hid (HostsOk R (j + 1)) := hostsOk_succ hok.out HK.out (by rw [HXE.out]; exact hr1) (by rw [HXE.out]; exact hr2) (by rw [HXE.out]; exact hnm.out)
                  go_wp2_with fail
                  go_round
                  case measure => simp [intOf]; omega
                  case rel => exact ⟨j + 1, by omega, by go_num, HOK.out⟩
            · have hno : Hid (¬ ValidR R) := hosts_range hlt (by rw [hxe]; exact fun h => hr2 h.2)
              clear hxe
              go_wp2_with fail
              go_ret
              exact ⟨false, rfl, ⟨(fun h => by cases h), fun h => absurd h hno.out⟩, HB.out⟩
          · have hno : Hid (¬ ValidR R) := hosts_range hlt (by rw [hxe]; exact fun h => hr1 h.1)
            clear hxe
            go_wp2_with fail
            go_ret
            exact ⟨false, rfl, ⟨(fun h => by cases h), fun h => absurd h hno.out⟩, HB.out⟩
        · obtain rfl : k = R.hosts.length := by omega
          clear H0 hin hhl
          go_wp2_with fail
          go_loop [6, 49] (fun l t => ∃ (k : Nat) (T : Int), k ≤ R.waves.length ∧ t = .int .i64 (k : Int) ∧ l = .int .i64 T ∧ Hid (WavesOk R k) ∧ Hid (T = (R.waves.take k).sum) ∧ 0 ≤ T ∧ T ≤ 16 * (k : Int)) (fun _ t => R.waves.length - (intOf t).toNat)
          case atStart => exact ⟨0, 0, Nat.zero_le _, rfl, rfl, wavesOk_zero R, by show _ = _; simp, by omega, by omega⟩
          case round =>
            obtain ⟨k, T, hk, rfl, rfl, hwok, hT, hT0, hT1⟩ := hrel
            by_cases hlt2 : k < R.waves.length
            · obtain ⟨b, off, rfl, hbl2, hc⟩ := H1.out.cells (by omega)
              have hck := hc k hlt2
              clear hc
              obtain ⟨x, hxe⟩ : ∃ x, ati R.waves k = x := ⟨_, rfl⟩
              rw [hxe] at hck
              by_cases hr1 : 1 ≤ x
              · by_cases hr2 : x ≤ 16
                · have HW : Hid (WavesOk R (k + 1)) := wavesOk_succ hwok.out hlt2 (by rw [hxe]; exact hr1)
                  have HT : Hid (T + x = (R.waves.take (k + 1)).sum) := by show _ = _; rw [sum_succ hlt2, hxe, hT.out]
                  clear hxe hwok hT
                  go_wp2_with fail
                  go_round
                  case measure => simp [intOf]; omega
                  case rel => exact ⟨k + 1, T + x, by omega, by go_num, rfl, HW.out, HT.out, by omega, by omega⟩
                · have hno : Hid (¬ ValidR R) := wave_big hlt2 (by rw [hxe]; omega)
                  clear hxe hwok hT
                  go_wp2_with fail
                  go_ret
                  exact ⟨false, rfl, ⟨(fun h => by cases h), fun h => absurd h hno.out⟩, HB.out⟩
              · have hno : Hid (¬ ValidR R) := wave_low hlt2 (by rw [hxe]; exact hr1)
                clear hxe hwok hT
                go_wp2_with fail
                go_ret
                exact ⟨false, rfl, ⟨(fun h => by cases h), fun h => absurd h hno.out⟩, HB.out⟩
            · obtain rfl : k = R.waves.length := by omega
              have hTs := hT.out
              rw [List.take_length] at hTs
              have HTS := Lib.hid hTs
              clear hT hTs
              by_cases hz : T = (R.hosts.length : Int)
              · have hb : (T == (R.hosts.length : Int)) = true := by rw [beq_iff_eq]; exact hz
                have HZ := Lib.hid hz
                clear hz
                go_wp2_with fail
                refine (Rate_c _ _ R.rate H2.out).mono ?_
                rintro e w3 ⟨rfl, hb3⟩
                obtain ⟨b0, b1, b2, b3, b4, b5, b6, b7⟩ := (BX.out.after hb3).cells8
                have H33 := Lib.hid (H3.out.after hb3)
                have HB3 := Lib.hid (HB.out.trans (hb3.mono HB.out.size))
                clear hb3
                by_cases he : rateE R.rate = 0
                · have HE := Lib.hid he
                  rw [he]
                  clear he
                  go_wp2_with fail
                  refine (bound_c _ _ R.bound H33.out).mono ?_
                  rintro e w4 ⟨rfl, hb4⟩
                  have HB4 := Lib.hid (HB3.out.trans (hb4.mono HB3.out.size))
                  clear hb4 b0 b1 b2 b3 b4 b5 b6 b7
                  by_cases hf : fracE R.bound = 0
                  · have hyes : Hid (ValidR R) := validR_all hl1 hl2 hok.out hwok.out (by rw [← HTS.out, HZ.out]) HE.out hf
                    rw [hf]
                    clear hf
                    go_wp2_with fail
                    go_ret
                    exact ⟨true, rfl, ⟨fun _ => hyes.out, fun _ => rfl⟩, HB4.out⟩
                  · have hno : Hid (¬ ValidR R) := fun hv => hf hv.2.2.2.2.2.2.2
                    have hb2 : (fracE R.bound == 0) = false := by rw [beq_eq_false_iff_ne]; exact hf
                    clear hf
                    go_wp2_with fail
                    go_ret
                    exact ⟨false, rfl, ⟨(fun h => by cases h), fun h => absurd h hno.out⟩, HB4.out⟩
                · have hno : Hid (¬ ValidR R) := fun hv => he hv.2.2.2.2.2.2.1
                  have hb2 : (rateE R.rate == 0) = false := by rw [beq_eq_false_iff_ne]; exact he
                  clear he
                  go_wp2_with fail
                  go_ret
                  exact ⟨false, rfl, ⟨(fun h => by cases h), fun h => absurd h hno.out⟩, HB3.out⟩
              · have hb : (T == (R.hosts.length : Int)) = false := by rw [beq_eq_false_iff_ne]; exact hz
                have hno : Hid (¬ ValidR R) := fun hv => hz (by rw [HTS.out]; exact hv.2.2.2.2.2.1)
                clear hz
                go_wp2_with fail
                go_ret
                exact ⟨false, rfl, ⟨(fun h => by cases h), fun h => absurd h hno.out⟩, HB.out⟩
    · have hno : Hid (¬ ValidR R) := fun hv => hl2 hv.2.1
      go_enter Tryz.func12, Tryz.ntmps12
      go_upto_region 1 with fail
      rw [← hW]
      clear hW
      go_wp2_with fail
      go_ret
      exact ⟨false, rfl, ⟨(fun h => by cases h), fun h => absurd h hno.out⟩, HB.out⟩
  · have hno : Hid (¬ ValidR R) := fun hv => hl1 hv.1
    go_enter Tryz.func12, Tryz.ntmps12
    go_upto_region 1 with fail
    rw [← hW]
    clear hW
    go_wp2_with fail
    go_ret
    exact ⟨false, rfl, ⟨(fun h => by cases h), fun h => absurd h hno.out⟩, HB.out⟩

/-- Whether it goes on at n hosts with k failures, as the exact tail says. -/
theorem goB_tail {R : Ro} (h : ValidR R) {n k : Nat} (hn : n ≤ 16) (hk : k ≤ n + 1) : ∃ x, tailF (n : Int) (k : Int) R.rate = (x, 0) ∧ ((cmpF x R.bound).1 > 0 ↔ GoB R n k) := by
  obtain ⟨a, b, x, y, e1, h1, h2, h3, h4, e2, h5, h6, hg⟩ := validR_fr h
  rw [e1, e2]
  obtain ⟨ht, hrep⟩ := tailF_q (m := n) (k := k) h4 h1 h3 (by omega) hk
  refine ⟨_, ht, ?_⟩
  rw [hg, rep_cmp hrep (rep_of_ok h5)]
  unfold Abv
  rw [show a + (b - a) = b by omega]
  have key : (((tl a (b - a) n k : Nat) : Int) * (y : Int) > (x : Int) * ((b ^ n : Nat) : Int)) ↔ b ^ n * x < tl a (b - a) n k * y := by
    rw [← Int.natCast_mul, ← Int.natCast_mul, Nat.mul_comm (b ^ n) x]
    omega
  rw [← key, show sg false x = (x : Int) from rfl]
  generalize ((tl a (b - a) n k : Nat) : Int) * (y : Int) = P
  generalize (x : Int) * ((b ^ n : Nat) : Int) = Q
  show (if P < Q then (-1 : Int) else if P = Q then 0 else 1) > 0 ↔ P > Q
  split
  · omega
  · split <;> omega

set_option maxRecDepth 100000 in
set_option maxHeartbeats 4000000 in
theorem goesOn_c (w : World) (v : Value) (R : Ro) (n k : Nat) (h : IsR w v R) (hv : ValidR R) (hn : n ≤ 16) (hk : k ≤ n + 1) : Calls Tryz.prog 27 #[v, .int .i64 (n : Int), .int .i64 (k : Int)] w (RetC w (GoB R n k)) := by
  obtain ⟨x, hx, hg⟩ := goB_tail hv hn hk
  obtain ⟨p0, p1, p2, p3, p4, p5, k0, k1, k2, k3, k4, k5, rfl, h0, h1, h2, h3⟩ := h.open
  obtain ⟨W0, hW, bx, hb0⟩ : ∃ W0, W0 = w.alloc (.cells #[.slice p0 R.hosts.length k0, .slice p1 R.waves.length k1, .bool R.rate.neg, .slice p2 R.rate.num.length k2, .slice p3 R.rate.den.length k3, .bool R.bound.neg, .slice p4 R.bound.num.length k4, .slice p5 R.bound.den.length k5] 28) ∧
      Box W0 w.heap.size #[.slice p0 R.hosts.length k0, .slice p1 R.waves.length k1, .bool R.rate.neg, .slice p2 R.rate.num.length k2, .slice p3 R.rate.den.length k3, .bool R.bound.neg, .slice p4 R.bound.num.length k4, .slice p5 R.bound.den.length k5] 28 ∧ Below w.heap.size w W0 :=
    ⟨_, rfl, Box.new w _ _, held_alloc (Below.refl _ w)⟩
  have H2 := Lib.hid (h2.after hb0)
  have H3 := Lib.hid (h3.after hb0)
  have HB := Lib.hid hb0
  have BX := Lib.hid bx
  have HX := Lib.hid hx
  have HG := Lib.hid hg
  obtain ⟨b0, b1, b2, b3, b4, b5, b6, b7⟩ := bx.cells8
  clear h h0 h1 h2 h3 hb0 bx hx hg
  go_enter Tryz.func27, Tryz.ntmps27
  go_upto_region 1 with fail
  rw [← hW]
  clear hW
  go_wp2_with fail
  refine (rTail_c _ (n : Int) (k : Int) _ R.rate H2.out).mono ?_
  rw [HX.out]
  rintro e w3 ⟨v3, rfl, hv3, hb3⟩
  have hv3 : IsF w3 v3 x := hv3
  obtain ⟨va, vb, rfl, g1, g2⟩ := hv3
  obtain ⟨q1, j1, rfl, _, _⟩ := g1.shape
  obtain ⟨q2, j2, rfl, _, _⟩ := g2.shape
  obtain ⟨b0, b1, b2, b3, b4, b5, b6, b7⟩ := (BX.out.after hb3).cells8
  have hlt := (BX.out.after hb3).lt
  have FX := Lib.hid (IsF.at_ g1 g2)
  have H33 := Lib.hid (H3.out.after hb3)
  have HB3 := Lib.hid (HB.out.trans (hb3.mono HB.out.size))
  clear hb3 g1 g2
  go_wp2_with fail
  refine (rCmp_c _ _ _ x R.bound (FX.out.alloc _) (H33.out.alloc _)).mono ?_
  rintro e w4 ⟨rfl, hb4⟩
  obtain ⟨hb4, _⟩ := after_new hb4
  have HB4 := Lib.hid (HB3.out.trans (hb4.mono HB3.out.size))
  clear hb4 b0 b1 b2 b3 b4 b5 b6 b7
  by_cases hc : (cmpF x R.bound).1 > 0
  · have hyes : Hid (GoB R n k) := HG.out.1 hc
    obtain ⟨c, hcc⟩ : ∃ c, (cmpF x R.bound).1 = c := ⟨_, rfl⟩
    rw [hcc] at hc ⊢
    have hdec : decide (0 < c) = true := by simp; omega
    clear hcc
    go_wp2_with fail
    go_ret
    exact ⟨true, rfl, ⟨fun _ => hyes.out, fun _ => rfl⟩, HB4.out⟩
  · have hno : Hid (¬ GoB R n k) := fun h => hc (HG.out.2 h)
    obtain ⟨c, hcc⟩ : ∃ c, (cmpF x R.bound).1 = c := ⟨_, rfl⟩
    rw [hcc] at hc ⊢
    have hdec : decide (0 < c) = false := by simp; omega
    clear hcc
    go_wp2_with fail
    go_ret
    exact ⟨false, rfl, ⟨(fun h => by cases h), fun h => absurd h hno.out⟩, HB4.out⟩
end Go.Proofs.YtjjefdkadgkhfaaGreat

namespace Go.Proofs.YtjjefdkadgkhfaaGreat
open Go.RowKit

theorem FreshFrom.mono {B C : Nat} {v : Value} (h : FreshFrom B v) (hc : C ≤ B) : FreshFrom C v := fun a n c e => Nat.le_trans hc (h a n c e)
/-- The result's variable, at D, is written. -/
def Dec1 (w : World) (D : Nat) (d : Dec) (W : World) : Prop := ∃ v, Box W D #[.int .u8 (d.kind : Int), v] 33 ∧ SlT W v d.hosts ∧ Below w.heap.size w W
theorem dec1_store {w W : World} {D : Nat} {x0 x1 : Value} (hD : Box W D #[x0, x1] 33) (hle : w.heap.size ≤ D) (hb : Below w.heap.size w W) {v : Value} {k : Nat} {l : List Int} (hs : SlT W v l) (hf : FreshFrom (D + 1) v) :
    Dec1 w D ⟨k, l⟩ ((W.setCell ⟨D, 0, none⟩ (.int .u8 (k : Int))).setCell ⟨D, 1, none⟩ v) := by
  refine ⟨v, ?_, ?_, (hb.setCell (p := ⟨D, 0, none⟩) hle _).setCell (p := ⟨D, 1, none⟩) hle _⟩
  · have := (hD.set 0 (.int .u8 (k : Int))).set 1 v
    simpa using this
  · exact (hs.setLow hf (g := D) (i := 0) (by omega) _).setLow hf (g := D) (i := 1) (by omega) _

set_option maxRecDepth 100000 in
set_option maxHeartbeats 4000000 in
theorem rNext_c (w : World) (v u : Value) (R : Ro) (failed : List Bool) (h : IsR w v R) (k : SlB w u failed) (hbig : R.waves.length ≤ 1000000) : Calls Tryz.prog 9 #[v, u] w (RetD w (nextF R failed)) := by
  have HX := h
  have HY := k
  obtain ⟨p0, p1, p2, p3, p4, p5, k0, k1, k2, k3, k4, k5, rfl, h0, h1, h2, h3⟩ := h.open
  obtain ⟨p, c, rfl, hc1, hc2, _⟩ := k.shape
  obtain ⟨W0, hW, bP, bD, hb0⟩ : ∃ W0, W0 = (w.alloc (.cells #[.slice p0 R.hosts.length k0, .slice p1 R.waves.length k1, .bool R.rate.neg, .slice p2 R.rate.num.length k2, .slice p3 R.rate.den.length k3, .bool R.bound.neg, .slice p4 R.bound.num.length k4, .slice p5 R.bound.den.length k5] 28)).alloc (.cells #[.int .u8 0, .slice none 0 0] 33) ∧
      Box W0 w.heap.size #[.slice p0 R.hosts.length k0, .slice p1 R.waves.length k1, .bool R.rate.neg, .slice p2 R.rate.num.length k2, .slice p3 R.rate.den.length k3, .bool R.bound.neg, .slice p4 R.bound.num.length k4, .slice p5 R.bound.den.length k5] 28 ∧ Box W0 (w.heap.size + 1) #[.int .u8 0, .slice none 0 0] 33 ∧ Below w.heap.size w W0 := by
    refine ⟨_, rfl, (Box.new w _ _).alloc _, ?_, held_alloc (held_alloc (Below.refl _ w))⟩
    have := Box.new (w.alloc (.cells #[.slice p0 R.hosts.length k0, .slice p1 R.waves.length k1, .bool R.rate.neg, .slice p2 R.rate.num.length k2, .slice p3 R.rate.den.length k3, .bool R.bound.neg, .slice p4 R.bound.num.length k4, .slice p5 R.bound.den.length k5] 28)) #[.int .u8 0, .slice none 0 0] 33
    simpa using this
  obtain ⟨c0, c1, c2, c3, c4, c5, c6, c7⟩ := bP.cells8
  have HP := Lib.hid (HX.after hb0)
  have HF := Lib.hid (HY.after hb0)
  have HB0 := Lib.hid hb0
  have BP := Lib.hid bP
  have BD := Lib.hid bD
  have H0 := Lib.hid (h0.after hb0)
  have H1 := Lib.hid (h1.after hb0)
  obtain ⟨_, ch, eh, mh1, mh2, _⟩ := h0.shape
  have hhl : R.hosts.length ≤ 9223372036854775807 := by omega
  have hk0 : R.hosts.length ≤ k0 := by injection eh with x1 x2 x3; omega
  have hk1 : k0 ≤ 9223372036854775807 := by injection eh with x1 x2 x3; omega
  clear HX HY h k h0 h1 h2 h3 bP bD hb0 eh mh1 mh2
  by_cases hv : ValidR R
  · have HV := Lib.hid hv
    clear hv
    go_enter Tryz.func9, Tryz.ntmps9
    go_upto_region 1 with fail
    rw [← hW]
    clear hW
    go_wp2_with fail
    refine (rcValid_c _ _ R HP.out hbig).mono ?_
    intro e w1 hr
    obtain ⟨rfl, hb1⟩ := hr.yes HV.out
    obtain ⟨c0, c1, c2, c3, c4, c5, c6, c7⟩ := (BP.out.after hb1).cells8
    have HP1 := Lib.hid (HP.out.after hb1)
    have HF1 := Lib.hid (HF.out.after hb1)
    have BP1 := Lib.hid (BP.out.after hb1)
    have BD1 := Lib.hid (BD.out.after hb1)
    have H01 := Lib.hid (H0.out.after hb1)
    have H11 := Lib.hid (H1.out.after hb1)
    have HB1 := Lib.hid (HB0.out.trans (hb1.mono HB0.out.size))
    have hs1 := HB1.out.size
    have hlt1 := (BD.out.after hb1).lt
    clear hr hb1 HP HF BP BD H0 H1 HB0
    by_cases hl : R.hosts.length < failed.length
    · have hfin : Hid (nextF R failed = (⟨0, []⟩, 2)) := by show _ = _; unfold nextF; rw [if_pos HV.out, if_pos hl]
      have r0 : w1.cell? ⟨w.heap.size + 1, 0, none⟩ = some (.int .u8 0) := BD1.out.cell 0
      have r1 : w1.cell? ⟨w.heap.size + 1, 1, none⟩ = some (.slice none 0 0) := BD1.out.cell 1
      have f0 := BD1.out.frozen 0
      have f1 := BD1.out.frozen 1
      have HST := Lib.hid (dec1_store (k := 0) BD1.out (by omega) HB1.out (SlT.nil _) (FreshFrom.nil _))
      go_wp2_with fail
      obtain ⟨W5, hW5⟩ : ∃ W5, W5 = (w1.setCell ⟨w.heap.size + 1, 0, none⟩ (.int .u8 0)).setCell ⟨w.heap.size + 1, 1, none⟩ (.slice none 0 0) := ⟨_, rfl⟩
      obtain ⟨v', b1, hs', hbel⟩ : Dec1 w (w.heap.size + 1) ⟨0, []⟩ W5 := hW5 ▸ HST.out
      rw [← hW5]
      clear hW5 HST r0 r1 f0 f1
      have e0 : W5.cell? ⟨w.heap.size + 1, 0, none⟩ = some (.int .u8 0) := b1.cell 0
      have e1 : W5.cell? ⟨w.heap.size + 1, 1, none⟩ = some v' := b1.cell 1
      refine bodyPost_ret (v := .tuple #[.agg #[.int .u8 0, v'], .int .i64 2]) (by simp [results, Tryz.results9, go_sem, e0, e1]) rfl ?_
      rw [hfin.out]
      exact ⟨v', rfl, hs', hbel⟩
    · have hlen : failed.length ≤ R.hosts.length := Nat.le_of_not_lt hl
      have h16 : R.hosts.length ≤ 16 := HV.out.2.1
      have hnx : Hid (nextF R failed = nextW R failed 0 R.waves.length) := by show _ = _; unfold nextF; rw [if_pos HV.out, if_neg hl]
      have cz : Hid (((cum R 0 : Nat) : Int) = 0) := by show _ = _; rw [cum_zero]; rfl
      have hdl : decide (R.hosts.length < failed.length) = false := decide_eq_false hl
      clear hl
      go_wp2_with fail
      clear c0 c1 c2 c3 c4 c5 c6 c7
      go_loopg [6, 26] R.waves.length (fun g n i wx => ∃ r : Nat, r ≤ R.waves.length ∧ g = R.waves.length - r ∧ n = .int .i64 ((cum R r : Nat) : Int) ∧ i = .int .i64 (r : Int) ∧ Hid (NJ R failed w1 r wx))
      case atStart => exact ⟨0, Nat.zero_le _, rfl, by rw [cz.out], rfl, Below.refl _ _, rfl⟩
      case round =>
        obtain ⟨r, hr, rfl, rfl, rfl, hj⟩ := hrel
        have hb := hj.out.1
        obtain ⟨b0, b1, b2, b3, b4, b5, b6, b7⟩ := (BP1.out.after hb).cells8
        have HP2 := Lib.hid (HP1.out.after hb)
        have HF2 := Lib.hid (HF1.out.after hb)
        have BP2 := Lib.hid (BP1.out.after hb)
        have BD2 := Lib.hid (BD1.out.after hb)
        have H02 := Lib.hid (H01.out.after hb)
        have H12 := Lib.hid (H11.out.after hb)
        have HB2 := Lib.hid (HB1.out.trans (hb.mono HB1.out.size))
        have hlt2 := BD2.out.lt
        have HJ := Lib.hid hj.out
        obtain ⟨wo, rfl⟩ : ∃ wo : World, wo = wr := ⟨_, rfl⟩
        clear hb hj
        by_cases hlt : r < R.waves.length
        · obtain ⟨q, hq⟩ : ∃ q, R.waves.length - r = q + 1 := ⟨R.waves.length - r - 1, by omega⟩
          have hnext : Hid (nextF R failed = nextW R failed r (q + 1)) := by show _ = _; rw [hnx.out, HJ.out.2, hq]
          have HQ := Lib.hid hq
          have hq2 : R.waves.length - (r + 1) = q := by omega
          have HQ' := Lib.hid hq2
          obtain ⟨bw, offw, rfl, _, hcw⟩ := H12.out.cells (by omega)
          obtain ⟨bh, offh, rfl, _, _⟩ := H02.out.cells (by have := HV.out.1; omega)
          have hck := hcw r hlt
          obtain ⟨s1, s2, s3⟩ := cum_succ HV.out hlt
          have s4 := cum_le HV.out (r + 1)
          have HLT := Lib.hid hlt
          have hhl2 := Lib.hid (hostsOf_len HV.out hlt)
          have HHO : Hid (SlI wo (.slice (some ⟨bh, offh + cum R r, none⟩) (cum R (r + 1) - cum R r) (k0 - cum R r)) (hostsOf R (cum R r) (cum R (r + 1)))) := H02.out.part (cum R r) (cum R (r + 1)) (by omega) (by omega)
          obtain ⟨x, hx⟩ : ∃ x, ati R.waves r = x := ⟨_, rfl⟩
          rw [hx] at s3 hck s2
          clear hcw s1 hx hq hq2
          have hcl : failsN failed (cum R (r + 1)) ≤ cum R (r + 1) := failsN_le _ _
          by_cases q1 : failed.length = cum R r
          · have hfin : Hid (nextF R failed = (⟨1, hostsOf R (cum R r) (cum R (r + 1))⟩, 0)) := by show _ = _; rw [hnext.out, nextW_wave q1]
            have hb1 : ((failed.length : Int) == ((cum R r : Nat) : Int)) = true := by rw [beq_iff_eq]; omega
            have hown : wo.ownsRow wo.heap.size 3 1 (.slice none 0 0) 0 [] := ⟨rfl, .inl ⟨rfl, rfl⟩⟩
            have HOWN := Lib.hid hown
            have HNEWS := Lib.hid HHO.out.2.news
            have HIN : Hid (∀ z ∈ hostsOf R (cum R r) (cum R (r + 1)), In64 z) := HHO.out.1
            have hlm : maxLen = 9223372036854775807 := rfl
            have HLM := Lib.hid hlm
            obtain ⟨i0, hi, hz0, hz1, hz2⟩ := info_parts infoInt
            clear q1 hown hlm
            go_wp2_with (at_builtin; refine wpList_append_own _ rfl _ _ 22 rfl wo.heap.size 3 i0 (.int .i64 0) 1 8 Tryz.underlying22 hi hz0 hz1 hz2 rfl (by decide) _ _ _ rfl HOWN.out ⟨bh, offh + cum R r, none⟩ (cum R (r + 1) - cum R r) (k0 - cum R r) ((hostsOf R (cum R r) (cum R (r + 1))).map (Value.int .i64)) rfl ?c1 HNEWS.out ?c3 ?c4 ?c5 ?c6 ?_)
            case c1 => rw [List.length_map, hhl2.out]; omega
            case c3 => exact fun u hu => by obtain ⟨x, _, rfl⟩ := List.mem_map.1 hu; rfl
            case c4 => rw [HLM.out]; omega
            case c5 => omega
            case c6 => omega
            intro v' w5 hown' hgrow _
            have hs' := SlV.of_own hown'
            have HS : Hid (SlT w5 v' (hostsOf R (cum R r) (cum R (r + 1))) ∧ FreshFrom wo.heap.size v') := ⟨⟨⟨HIN.out, hs'.1⟩, TagV.of_own hown'⟩, hs'.2⟩
            obtain ⟨a5, c5, rfl⟩ := HS.out.1.shape
            have hb5 : Below wo.heap.size wo w5 := (Below.refl _ wo).grown hgrow (by omega) (fun k hk => by simp [Value.ownBlock] at hk)
            have bd := BD2.out.after hb5
            have r0 : w5.cell? ⟨w.heap.size + 1, 0, none⟩ = some (.int .u8 0) := bd.cell 0
            have r1 : w5.cell? ⟨w.heap.size + 1, 1, none⟩ = some (.slice none 0 0) := bd.cell 1
            have f0 := bd.frozen 0
            have f1 := bd.frozen 1
            have HST := Lib.hid (dec1_store (k := 1) bd (by omega) (HB2.out.trans (hb5.mono HB2.out.size)) HS.out.1 (HS.out.2.mono (by omega)))
            clear hs' hown' hgrow hb5 bd HS
            go_wp2_with fail
            obtain ⟨W5, hW5⟩ : ∃ W5, W5 = (w5.setCell ⟨w.heap.size + 1, 0, none⟩ (.int .u8 1)).setCell ⟨w.heap.size + 1, 1, none⟩ (.slice a5 (hostsOf R (cum R r) (cum R (r + 1))).length c5) := ⟨_, rfl⟩
            obtain ⟨v', b1, hs', hbel⟩ : Dec1 w (w.heap.size + 1) ⟨1, hostsOf R (cum R r) (cum R (r + 1))⟩ W5 := hW5 ▸ HST.out
            rw [← hW5]
            clear hW5 HST r0 r1 f0 f1
            have e0 : W5.cell? ⟨w.heap.size + 1, 0, none⟩ = some (.int .u8 1) := b1.cell 0
            have e1 : W5.cell? ⟨w.heap.size + 1, 1, none⟩ = some v' := b1.cell 1
            refine bodyPost_ret (v := .tuple #[.agg #[.int .u8 1, v'], .int .i64 0]) (by simp [results, Tryz.results9, go_sem, e0, e1]) rfl ?_
            rw [hfin.out]
            exact ⟨v', rfl, hs', hbel⟩
          · have hb1 : ((failed.length : Int) == ((cum R r : Nat) : Int)) = false := by rw [beq_eq_false_iff_ne]; omega
            by_cases q2 : failed.length < cum R (r + 1)
            · have hfin : Hid (nextF R failed = (⟨0, []⟩, 8)) := by show _ = _; rw [hnext.out, nextW_early q1 q2]
              clear q1
              have r0 : wo.cell? ⟨w.heap.size + 1, 0, none⟩ = some (.int .u8 0) := BD2.out.cell 0
              have r1 : wo.cell? ⟨w.heap.size + 1, 1, none⟩ = some (.slice none 0 0) := BD2.out.cell 1
              have f0 := BD2.out.frozen 0
              have f1 := BD2.out.frozen 1
              have HST := Lib.hid (dec1_store (k := 0) BD2.out (by omega) HB2.out (SlT.nil _) (FreshFrom.nil _))
              go_wp2_with fail
              obtain ⟨W5, hW5⟩ : ∃ W5, W5 = (wo.setCell ⟨w.heap.size + 1, 0, none⟩ (.int .u8 0)).setCell ⟨w.heap.size + 1, 1, none⟩ (.slice none 0 0) := ⟨_, rfl⟩
              obtain ⟨v', b1, hs', hbel⟩ : Dec1 w (w.heap.size + 1) ⟨0, []⟩ W5 := hW5 ▸ HST.out
              rw [← hW5]
              clear hW5 HST r0 r1 f0 f1
              have e0 : W5.cell? ⟨w.heap.size + 1, 0, none⟩ = some (.int .u8 0) := b1.cell 0
              have e1 : W5.cell? ⟨w.heap.size + 1, 1, none⟩ = some v' := b1.cell 1
              refine bodyPost_ret (v := .tuple #[.agg #[.int .u8 0, v'], .int .i64 8]) (by simp [results, Tryz.results9, go_sem, e0, e1]) rfl ?_
              rw [hfin.out]
              exact ⟨v', rfl, hs', hbel⟩
            · go_wp2_with fail
              go_loop [10, 11] (fun t i => ∃ j : Nat, j ≤ cum R (r + 1) ∧ i = .int .i64 (j : Int) ∧ t = .int .i64 ((failsN failed j : Nat) : Int)) (fun _ i => cum R (r + 1) - (intOf i).toNat)
              case atStart => exact ⟨0, Nat.zero_le _, rfl, by simp [failsN]⟩
              case round =>
                obtain ⟨j, hj, rfl, rfl⟩ := hrel
                by_cases hjl : j < cum R (r + 1)
                · obtain ⟨bf, offf, rfl, _, hcf⟩ := HF2.out.cells (by omega)
                  have hcj := hcf j (by omega)
                  have hfl := failsN_le failed j
                  clear hcf
                  cases hv : atb failed j with
                  | true =>
                    have HS : Hid (failsN failed (j + 1) = failsN failed j + 1) := by show _ = _; unfold failsN; rw [count_succ (by omega), hv]; rfl
                    rw [hv] at hcj
                    clear hv
                    go_wp2_with fail
                    go_round
                    case measure => simp [intOf]; omega
                    case rel => exact ⟨j + 1, by omega, by go_num, by rw [HS.out]; go_num⟩
                  | false =>
                    have HS : Hid (failsN failed (j + 1) = failsN failed j) := by show _ = _; unfold failsN; rw [count_succ (by omega), hv]; rfl
                    rw [hv] at hcj
                    clear hv
                    go_wp2_with fail
                    go_round
                    case measure => simp [intOf]; omega
                    case rel => exact ⟨j + 1, by omega, by go_num, by rw [HS.out]⟩
                · obtain rfl : j = cum R (r + 1) := by omega
                  go_wp2_with fail
                  refine (goesOn_c _ _ R (cum R (r + 1)) (failsN failed (cum R (r + 1))) HP2.out HV.out (by omega) (by omega)).mono ?_
                  intro e w5 hg
                  by_cases hgo : GoB R (cum R (r + 1)) (failsN failed (cum R (r + 1)))
                  · obtain ⟨rfl, hb5⟩ := hg.yes hgo
                    have HNJ : Hid (NJ R failed w1 (r + 1) w5) := ⟨HJ.out.1.trans (hb5.mono HJ.out.1.size), by rw [HJ.out.2, HQ.out, nextW_go q1 q2 hgo, HQ'.out]⟩
                    clear hg hb5 hgo q1
                    go_wp2_with fail
                    go_roundg (R.waves.length - (r + 1))
                    case measure => omega
                    case rel => exact ⟨r + 1, by omega, rfl, rfl, by go_num, HNJ.out⟩
                  · obtain ⟨rfl, hb5⟩ := hg.no hgo
                    have BD5 := Lib.hid (BD2.out.after hb5)
                    have HB5 := Lib.hid (HB2.out.trans (hb5.mono HB2.out.size))
                    clear hg hb5
                    by_cases q4 : cum R (r + 1) < failed.length
                    · have hfin : Hid (nextF R failed = (⟨0, []⟩, 8)) := by show _ = _; rw [hnext.out, nextW_late q1 q2 hgo q4]
                      clear q1 hgo
                      have r0 : w5.cell? ⟨w.heap.size + 1, 0, none⟩ = some (.int .u8 0) := BD5.out.cell 0
                      have r1 : w5.cell? ⟨w.heap.size + 1, 1, none⟩ = some (.slice none 0 0) := BD5.out.cell 1
                      have f0 := BD5.out.frozen 0
                      have f1 := BD5.out.frozen 1
                      have HST := Lib.hid (dec1_store (k := 0) BD5.out (by omega) HB5.out (SlT.nil _) (FreshFrom.nil _))
                      go_wp2_with fail
                      obtain ⟨W5, hW5⟩ : ∃ W5, W5 = (w5.setCell ⟨w.heap.size + 1, 0, none⟩ (.int .u8 0)).setCell ⟨w.heap.size + 1, 1, none⟩ (.slice none 0 0) := ⟨_, rfl⟩
                      obtain ⟨v', b1, hs', hbel⟩ : Dec1 w (w.heap.size + 1) ⟨0, []⟩ W5 := hW5 ▸ HST.out
                      rw [← hW5]
                      clear hW5 HST r0 r1 f0 f1
                      have e0 : W5.cell? ⟨w.heap.size + 1, 0, none⟩ = some (.int .u8 0) := b1.cell 0
                      have e1 : W5.cell? ⟨w.heap.size + 1, 1, none⟩ = some v' := b1.cell 1
                      refine bodyPost_ret (v := .tuple #[.agg #[.int .u8 0, v'], .int .i64 8]) (by simp [results, Tryz.results9, go_sem, e0, e1]) rfl ?_
                      rw [hfin.out]
                      exact ⟨v', rfl, hs', hbel⟩
                    · have hfin : Hid (nextF R failed = (⟨2, []⟩, 0)) := by show _ = _; rw [hnext.out, nextW_stop q1 q2 hgo q4]
                      clear q1 hgo
                      have r0 : w5.cell? ⟨w.heap.size + 1, 0, none⟩ = some (.int .u8 0) := BD5.out.cell 0
                      have r1 : w5.cell? ⟨w.heap.size + 1, 1, none⟩ = some (.slice none 0 0) := BD5.out.cell 1
                      have f0 := BD5.out.frozen 0
                      have f1 := BD5.out.frozen 1
                      have HST := Lib.hid (dec1_store (k := 2) BD5.out (by omega) HB5.out (SlT.nil _) (FreshFrom.nil _))
                      go_wp2_with fail
                      obtain ⟨W5, hW5⟩ : ∃ W5, W5 = (w5.setCell ⟨w.heap.size + 1, 0, none⟩ (.int .u8 2)).setCell ⟨w.heap.size + 1, 1, none⟩ (.slice none 0 0) := ⟨_, rfl⟩
                      obtain ⟨v', b1, hs', hbel⟩ : Dec1 w (w.heap.size + 1) ⟨2, []⟩ W5 := hW5 ▸ HST.out
                      rw [← hW5]
                      clear hW5 HST r0 r1 f0 f1
                      have e0 : W5.cell? ⟨w.heap.size + 1, 0, none⟩ = some (.int .u8 2) := b1.cell 0
                      have e1 : W5.cell? ⟨w.heap.size + 1, 1, none⟩ = some v' := b1.cell 1
                      refine bodyPost_ret (v := .tuple #[.agg #[.int .u8 2, v'], .int .i64 0]) (by simp [results, Tryz.results9, go_sem, e0, e1]) rfl ?_
                      rw [hfin.out]
                      exact ⟨v', rfl, hs', hbel⟩
        · obtain rfl : r = R.waves.length := by omega
          have hfin : Hid (nextF R failed = (⟨3, []⟩, 0)) := by show _ = _; rw [hnx.out, HJ.out.2, Nat.sub_self, nextW_end]
          have r0 : wo.cell? ⟨w.heap.size + 1, 0, none⟩ = some (.int .u8 0) := BD2.out.cell 0
          have r1 : wo.cell? ⟨w.heap.size + 1, 1, none⟩ = some (.slice none 0 0) := BD2.out.cell 1
          have f0 := BD2.out.frozen 0
          have f1 := BD2.out.frozen 1
          have HST := Lib.hid (dec1_store (k := 3) BD2.out (by omega) HB2.out (SlT.nil _) (FreshFrom.nil _))
          go_wp2_with fail
          obtain ⟨W5, hW5⟩ : ∃ W5, W5 = (wo.setCell ⟨w.heap.size + 1, 0, none⟩ (.int .u8 3)).setCell ⟨w.heap.size + 1, 1, none⟩ (.slice none 0 0) := ⟨_, rfl⟩
          obtain ⟨v', b1, hs', hbel⟩ : Dec1 w (w.heap.size + 1) ⟨3, []⟩ W5 := hW5 ▸ HST.out
          rw [← hW5]
          clear hW5 HST r0 r1 f0 f1
          have e0 : W5.cell? ⟨w.heap.size + 1, 0, none⟩ = some (.int .u8 3) := b1.cell 0
          have e1 : W5.cell? ⟨w.heap.size + 1, 1, none⟩ = some v' := b1.cell 1
          refine bodyPost_ret (v := .tuple #[.agg #[.int .u8 3, v'], .int .i64 0]) (by simp [results, Tryz.results9, go_sem, e0, e1]) rfl ?_
          rw [hfin.out]
          exact ⟨v', rfl, hs', hbel⟩
  · have hfin : Hid (nextF R failed = (⟨0, []⟩, 1)) := by show _ = _; unfold nextF; rw [if_neg hv]
    have HV := Lib.hid hv
    clear hv
    go_enter Tryz.func9, Tryz.ntmps9
    go_upto_region 1 with fail
    rw [← hW]
    clear hW
    go_wp2_with fail
    refine (rcValid_c _ _ R HP.out hbig).mono ?_
    intro e w1 hr
    obtain ⟨rfl, hb1⟩ := hr.no HV.out
    have bd := BD.out.after hb1
    have r0 : w1.cell? ⟨w.heap.size + 1, 0, none⟩ = some (.int .u8 0) := bd.cell 0
    have r1 : w1.cell? ⟨w.heap.size + 1, 1, none⟩ = some (.slice none 0 0) := bd.cell 1
    have f0 := bd.frozen 0
    have f1 := bd.frozen 1
    have HST := Lib.hid (dec1_store (k := 0) bd (by omega) (HB0.out.trans (hb1.mono HB0.out.size)) (SlT.nil _) (FreshFrom.nil _))
    clear hr hb1 bd
    go_wp2_with fail
    obtain ⟨W5, hW5⟩ : ∃ W5, W5 = (w1.setCell ⟨w.heap.size + 1, 0, none⟩ (.int .u8 0)).setCell ⟨w.heap.size + 1, 1, none⟩ (.slice none 0 0) := ⟨_, rfl⟩
    obtain ⟨v', b1, hs', hbel⟩ : Dec1 w (w.heap.size + 1) ⟨0, []⟩ W5 := hW5 ▸ HST.out
    rw [← hW5]
    clear hW5 HST r0 r1 f0 f1
    have e0 : W5.cell? ⟨w.heap.size + 1, 0, none⟩ = some (.int .u8 0) := b1.cell 0
    have e1 : W5.cell? ⟨w.heap.size + 1, 1, none⟩ = some v' := b1.cell 1
    refine bodyPost_ret (v := .tuple #[.agg #[.int .u8 0, v'], .int .i64 1]) (by simp [results, Tryz.results9, go_sem, e0, e1]) rfl ?_
    rw [hfin.out]
    exact ⟨v', rfl, hs', hbel⟩
end Go.Proofs.YtjjefdkadgkhfaaGreat

namespace Go.Proofs.YtjjefdkadgkhfaaGreat
open Go.RowKit Go.Shelf

theorem cutR_cutR (R : Ro) : cutR (cutR R) = cutR R := by
  unfold cutR cut34
  simp [List.take_take]
theorem SlB.cut {w : World} {p : Option Addr} {c : Nat} {l : List Bool} (h : SlB w (.slice p l.length c) l) : SlB w (.slice p (min (l.length : Int) 18).toNat c) (l.take 18) := by
  have hn : (min (l.length : Int) 18).toNat = min 18 l.length := by omega
  have := h.front (min 18 l.length) (by omega)
  rw [hn]
  rw [show l.take 18 = l.take (min 18 l.length) by
    rcases Nat.le_total 18 l.length with h1 | h1
    · rw [Nat.min_eq_left h1]
    · rw [Nat.min_eq_right h1, List.take_of_length_le h1, List.take_length]]
  exact this
/-- The variable of a rollout bears neither limbs nor ints, whatever its slices. -/
theorem dull_var {w : World} {b : Nat} {p0 p1 p2 p3 p4 p5 : Option Addr} {n0 n1 n2 n3 n4 n5 k0 k1 k2 k3 k4 k5 : Nat} {s t : Bool} (h : Box w b #[.slice p0 n0 k0, .slice p1 n1 k1, .bool s, .slice p2 n2 k2, .slice p3 n3 k3, .bool t, .slice p4 n4 k4, .slice p5 n5 k5] 28) : Dull (fun g => g = b) w := by
  refine ⟨?_, ?_⟩
  · rintro g rfl
    exact h.noTag (by decide) _ rfl
  · rintro g o z rfl hc
    rw [h.cell] at hc
    rcases o with _ | _ | _ | _ | _ | _ | _ | _ | o <;> simp at hc
/-- A rollout's value stored into a variable of a rollout. -/
theorem ro_store {w : World} {b : Nat} {p0 p1 p2 p3 p4 p5 : Option Addr} {n0 n1 n2 n3 n4 n5 k0 k1 k2 k3 k4 k5 : Nat} {s t : Bool} {R : Ro} {a0 a1 a2 a3 a4 a5 : Option Addr} {e0 e1 e2 e3 e4 e5 : Nat}
    (h : Box w b #[.slice p0 n0 k0, .slice p1 n1 k1, .bool s, .slice p2 n2 k2, .slice p3 n3 k3, .bool t, .slice p4 n4 k4, .slice p5 n5 k5] 28)
    (hR : IsR w (.agg #[.slice a0 R.hosts.length e0, .slice a1 R.waves.length e1, .bool R.rate.neg, .slice a2 R.rate.num.length e2, .slice a3 R.rate.den.length e3, .bool R.bound.neg, .slice a4 R.bound.num.length e4, .slice a5 R.bound.den.length e5]) R) :
    Box (set8 w b (.slice a0 R.hosts.length e0) (.slice a1 R.waves.length e1) (.bool R.rate.neg) (.slice a2 R.rate.num.length e2) (.slice a3 R.rate.den.length e3) (.bool R.bound.neg) (.slice a4 R.bound.num.length e4) (.slice a5 R.bound.den.length e5)) b #[.slice a0 R.hosts.length e0, .slice a1 R.waves.length e1, .bool R.rate.neg, .slice a2 R.rate.num.length e2, .slice a3 R.rate.den.length e3, .bool R.bound.neg, .slice a4 R.bound.num.length e4, .slice a5 R.bound.den.length e5] 28 ∧
    IsR (set8 w b (.slice a0 R.hosts.length e0) (.slice a1 R.waves.length e1) (.bool R.rate.neg) (.slice a2 R.rate.num.length e2) (.slice a3 R.rate.den.length e3) (.bool R.bound.neg) (.slice a4 R.bound.num.length e4) (.slice a5 R.bound.den.length e5)) (.agg #[.slice a0 R.hosts.length e0, .slice a1 R.waves.length e1, .bool R.rate.neg, .slice a2 R.rate.num.length e2, .slice a3 R.rate.den.length e3, .bool R.bound.neg, .slice a4 R.bound.num.length e4, .slice a5 R.bound.den.length e5]) R :=
  ⟨set8_box h _ _ _ _ _ _ _ _, hR.fx ((Fx.refl (fun g => g = b) w).of (set8_grown w b _ _ _ _ _ _ _ _) rfl) (dull_var h)⟩
theorem set8_below {w0 w : World} {b : Nat} {y0 y1 y2 y3 y4 y5 y6 y7 : Value} (h : Below w0.heap.size w0 w) (hb : w0.heap.size ≤ b) : Below w0.heap.size w0 (set8 w b y0 y1 y2 y3 y4 y5 y6 y7) :=
  h.grown (set8_grown w b _ _ _ _ _ _ _ _) h.size (fun g e => by injection e with e; omega)
/-- A decision's value in a variable. -/
theorem VarD.put {w : World} {B : Nat} {d : Dec} {p : Option Addr} {c : Nat} (hB : Box w B #[.int .u8 0, .slice none 0 0] 33) (h : SlT w (.slice p d.hosts.length c) d.hosts) :
    VarD ((w.setCell ⟨B, 0, none⟩ (.int .u8 (d.kind : Int))).setCell ⟨B, 1, none⟩ (.slice p d.hosts.length c)) B d := by
  have hg := grown_tr (grown_set w B 0 (.int .u8 (d.kind : Int))) (grown_set _ B 1 (.slice p d.hosts.length c))
  refine ⟨p, c, ?_, (h.grown hg (hB.noInt (by decide))).1⟩
  have := (hB.set 0 (.int .u8 (d.kind : Int))).set 1 (.slice p d.hosts.length c)
  simpa using this
theorem below_put2 {w0 w : World} {B : Nat} {x y : Value} (h : Below w0.heap.size w0 w) (hle : w0.heap.size ≤ B) : Below w0.heap.size w0 ((w.setCell ⟨B, 0, none⟩ x).setCell ⟨B, 1, none⟩ y) :=
  (h.setCell (p := ⟨B, 0, none⟩) hle x).setCell (p := ⟨B, 1, none⟩) hle y
theorem SlT.alloc {w : World} {v : Value} {l : List Int} (h : SlT w v l) (o : Obj) : SlT (w.alloc o) v l := h.after (held_alloc (Below.refl _ w))
theorem VarD.makeT {w : World} {d : Dec} {p : Option Addr} {c : Nat} (h : SlT w (.slice p d.hosts.length c) d.hosts) : VarD (w.alloc (.cells #[.int .u8 (d.kind : Int), .slice p d.hosts.length c] 33)) w.heap.size d := VarD.make h.1
theorem agg8_inj {x0 x1 x2 x3 x4 x5 x6 x7 y0 y1 y2 y3 y4 y5 y6 y7 : Value} (h : Value.agg #[x0, x1, x2, x3, x4, x5, x6, x7] = .agg #[y0, y1, y2, y3, y4, y5, y6, y7]) : x0 = y0 ∧ x1 = y1 ∧ x2 = y2 ∧ x3 = y3 ∧ x4 = y4 ∧ x5 = y5 ∧ x6 = y6 ∧ x7 = y7 := by
  have h := congrArg Array.toList (Value.agg.inj h)
  simpa using h
theorem IsR.parts {w : World} {R : Ro} {x0 x1 x2 x3 x4 x5 x6 x7 : Value} (h : IsR w (.agg #[x0, x1, x2, x3, x4, x5, x6, x7]) R) : SlI w x0 R.hosts ∧ SlI w x1 R.waves ∧ IsF w (.agg #[x2, x3, x4]) R.rate ∧ IsF w (.agg #[x5, x6, x7]) R.bound := by
  obtain ⟨vh, vw, va, vb, vc, vd, e, h1, h2, h3, h4, h5, h6⟩ := h
  obtain ⟨rfl, rfl, rfl, rfl, rfl, rfl, rfl, rfl⟩ := agg8_inj e
  exact ⟨h1, h2, ⟨_, _, rfl, h3, h4⟩, ⟨_, _, rfl, h5, h6⟩⟩
theorem SlD.shape4 {w : World} {v : Value} {ds : List Dec} (h : SlD w v ds) : ∃ a cap, v = .slice a ds.length cap ∧ ds.length ≤ cap ∧ cap ≤ 9223372036854775807 ∧ (a = none → cap = 0) := by
  obtain ⟨a, cap, h1, h2, h3, h4, _⟩ := h
  exact ⟨a, cap, h1, h2, h3, h4⟩
end Go.Proofs.YtjjefdkadgkhfaaGreat
