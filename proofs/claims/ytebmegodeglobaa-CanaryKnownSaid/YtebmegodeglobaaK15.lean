/- Walks of the reference: Sum, Diff, Product.
   Walks of the reference: Diff, Product.
   Plain: the number of binary digits, halves, and division by shifts and subtractions. No program in sight.
   Walks of the reference: bits, double, half.
   Walks of the reference: half. -/
import Derived.Test.YtebmegodeglobaaK14
import Derived.Test.YtebmegodeglobaaK03
import Derived.Maps.AppendAt
import Derived.OwnWalk
import Derived.Deep.QuietTactic
import Derived.BigQuiet
import Derived.Test.YtebmegodeglobaaK05
import Derived.Test.YtebmegodeglobaaK06
set_option linter.unusedVariables false
namespace Go.Proofs.Ytebmegodeglobaa
open Go.RowKit

/-- After i rounds of Sum. -/
def SumRel (a b o : List Nat) (i c : Nat) : Prop := o.length = i ∧ Lb o ∧ c ≤ 1 ∧ val o + c * 4294967296 ^ i = val (a.take i) + val (b.take i)
theorem SumRel.start (a b : List Nat) : SumRel a b [] 0 0 := ⟨rfl, Lb.nil, by omega, by simp [val]⟩
theorem SumRel.step {a b o : List Nat} {i c : Nat} (h : SumRel a b o i c) (ha : Lb a) (hb : Lb b) : SumRel a b (o ++ [addLo (lim a i) (lim b i) c]) (i + 1) (addHi (lim a i) (lim b i) c) := by
  obtain ⟨h1, h2, h3, h4⟩ := h
  have e0 := add_eq (lim a i) (lim b i) c
  have e2 := val_take_step a i
  have e3 := val_take_step b i
  refine ⟨by simp [h1], h2.append (Lb.cons (addLo_lt _ _ _) Lb.nil), addHi_le (ha.getD i) (hb.getD i) h3, ?_⟩
  rw [val_append, h1, e2, e3, Nat.pow_succ]
  simp only [val]
  generalize addLo (lim a i) (lim b i) c = lo at *
  generalize addHi (lim a i) (lim b i) c = hi at *
  grind
theorem SumRel.done {a b o : List Nat} {n c : Nat} (h : SumRel a b o n c) (ha : a.length ≤ n) (hb : b.length ≤ n) : val (o ++ [c]) = val a + val b ∧ Lb (o ++ [c]) := by
  obtain ⟨h1, h2, h3, h4⟩ := h
  rw [val_take_ge ha, val_take_ge hb] at h4
  refine ⟨?_, h2.append (Lb.cons (by omega) Lb.nil)⟩
  rw [val_append, h1]
  simp only [val]
  grind

theorem Sl.shape' {w : World} {v : Value} {l : List Nat} (h : Sl w v l) : ∃ a cap, v = .slice a l.length cap ∧ l.length ≤ cap := by
  obtain ⟨_, a, cap, h1, h2, _⟩ := h
  exact ⟨a, cap, h1, h2⟩
theorem own_cast {w : World} {base n : Nat} {v : Value} {l : List Nat} {x : Nat} {z : Int} (h : w.ownsRow base 95 1 v n (l.map u32 ++ [.int .u32 z])) (hz : z = (x : Int)) : w.ownsRow base 95 1 v n ((l ++ [x]).map u32) := by
  subst hz
  simpa [u32] using h

set_option maxRecDepth 100000 in
set_option maxHeartbeats 2000000 in
theorem Sum_c (w : World) (va vb : Value) (a b : List Nat) (h : Sl w va a) (k : Sl w vb b) (ha : a.length ≤ 1000000) (hb : b.length ≤ 1000000) :
    Calls Try.prog 81 #[va, vb] w (RetNat w (val a + val b)) := by
  have hs := h
  have ks := k
  obtain ⟨h0, p, cap, rfl, h2, h3, h5, h6⟩ := h
  obtain ⟨k0, q, cap', rfl, k2, k3, k5, k6⟩ := k
  have HS := Lib.hid hs
  have KS := Lib.hid ks
  obtain ⟨i0, hi, hz0, hz1, hz2⟩ := info_parts info32
  have hlm : Hid (maxLen = 9223372036854775807) := rfl
  obtain ⟨m, hm⟩ : ∃ m, m = max a.length b.length := ⟨_, rfl⟩
  have hm1 : a.length ≤ m := by omega
  have hm2 : b.length ≤ m := by omega
  have hm3 : m ≤ 1000000 := by omega
  have hm4 : Hid (m ≤ a.length ∨ m ≤ b.length) := by show _ ∨ _; omega
  have hmx : (if a.length < b.length then ((b.length : Nat) : Int) else ((a.length : Nat) : Int)) = (m : Int) := by split <;> omega
  clear hs ks h5 h6 k5 k6 hm
  go_enter Try.func81, Try.ntmps81
  go_wp2
  go_loopg [5, 6, 7] (m) (fun g o c t wx => ∃ (i x : Nat) (l : List Nat), i ≤ m ∧ g = m - i ∧ x ≤ 1 ∧ c = .int .u64 (x : Int) ∧ t = .int .i64 (i : Int) ∧ wx.ownsRow w.heap.size 95 1 o i (l.map u32) ∧ Hid (SumRel a b l i x) ∧ Below w.heap.size w wx)
  case atStart => exact ⟨0, 0, [], Nat.zero_le _, rfl, by omega, rfl, rfl, World.ownsRow_nil _ _ _ _, SumRel.start a b, Below.refl _ w⟩
  case round =>
    obtain ⟨i, x, l, hile, rfl, hx, rfl, rfl, hown, hrel, hbl⟩ := hrel
    have hsz := hbl.size
    by_cases hlt : i < m
    · have hax := h0.getD i
      have hbx := k0.getD i
      have hnext := hrel.out.step h0 k0
      have HN := Lib.hid hnext
      have hhi := addHi_le hax hbx hx
      have HOWN := Lib.hid hown
      clear hown hnext
      by_cases hla : i < a.length
      · by_cases hlb : i < b.length
        · skip
          obtain ⟨_, _, _, hv, _, _, _, h6⟩ := HS.out
          obtain ⟨rfl, rfl⟩ : p = _ ∧ cap = _ := by simpa using hv
          obtain ⟨b1, o1, rfl, hb1, hc1⟩ := h6 (by omega)
          have hca : wr.cell? ⟨b1, o1 + i, none⟩ = some (.int .u32 ((lim a i : Nat) : Int)) := (hbl.cell (p := ⟨b1, o1 + i, none⟩) hb1).trans (hc1 i hla)
          clear hc1 h6 hv
          obtain ⟨_, _, _, hv, _, _, _, k6⟩ := KS.out
          obtain ⟨rfl, rfl⟩ : q = _ ∧ cap' = _ := by simpa using hv
          obtain ⟨b2, o2, rfl, hb2, hc2⟩ := k6 (by omega)
          have hcb : wr.cell? ⟨b2, o2 + i, none⟩ = some (.int .u32 ((lim b i : Nat) : Int)) := (hbl.cell (p := ⟨b2, o2 + i, none⟩) hb2).trans (hc2 i hlb)
          clear hc2 k6 hv
          have hz1' : ((x : Int) + (lim a i : Nat) + (lim b i : Nat)) % 4294967296 = ((addLo (lim a i) (lim b i) x : Nat) : Int) := by unfold addLo; omega
          have hz2' : ((x : Int) + (lim a i : Nat) + (lim b i : Nat)) / 4294967296 = ((addHi (lim a i) (lim b i) x : Nat) : Int) := by unfold addHi; omega
          go_wp2_with (at_builtin; refine wpList_append_own _ rfl _ _ 24 rfl w.heap.size 95 i0 (.int .u32 0) 1 4 Try.underlying24 hi hz0 hz1 hz2 rfl (by decide) _ _ _ rfl (HOWN.out.alloc _) ⟨wr.heap.size, 0, none⟩ 1 1 [.int .u32 ((addLo (lim a i) (lim b i) x : Nat) : Int)] rfl rfl ?c1 ?c2 ?c3 ?c4 ?c5 ?_)
          case c1 => exact cell_one_new _ _ _
          case c2 => simp [Value.oneCell']
          case c3 => rw [hlm.out]; omega
          case c4 => omega
          case c5 => simp; omega
          intro v' w1 hown' hgrow _
          have hown2 := own_cast hown' rfl
          have hb1 := (hbl.alloc hsz (.cells #[.int .u32 ((addLo (lim a i) (lim b i) x : Nat) : Int)] 95)).grown hgrow (by simp; omega) (fun k hk => (HOWN.out.lt k hk).1)
          have HOWN2 := Lib.hid hown2
          have HB1 := Lib.hid hb1
          clear hown' hown2 hb1 hgrow
          go_wp2
          go_roundg (m - (i + 1))
          case measure => omega
          case rel => exact ⟨i + 1, _, _, by omega, rfl, hhi, rfl, by go_num, HOWN2.out, HN.out, HB1.out⟩
        · have hzb : lim b i = 0 := getD_ge (by omega)
          have HZB := Lib.hid hzb
          clear hzb
          obtain ⟨_, _, _, hv, _, _, _, h6⟩ := HS.out
          obtain ⟨rfl, rfl⟩ : p = _ ∧ cap = _ := by simpa using hv
          obtain ⟨b1, o1, rfl, hb1, hc1⟩ := h6 (by omega)
          have hca : wr.cell? ⟨b1, o1 + i, none⟩ = some (.int .u32 ((lim a i : Nat) : Int)) := (hbl.cell (p := ⟨b1, o1 + i, none⟩) hb1).trans (hc1 i hla)
          clear hc1 h6 hv
          have hz1' : ((x : Int) + (lim a i : Nat)) % 4294967296 = ((addLo (lim a i) (lim b i) x : Nat) : Int) := by have := HZB.out; unfold addLo; omega
          have hz2' : ((x : Int) + (lim a i : Nat)) / 4294967296 = ((addHi (lim a i) (lim b i) x : Nat) : Int) := by have := HZB.out; unfold addHi; omega
          go_wp2_with (at_builtin; refine wpList_append_own _ rfl _ _ 24 rfl w.heap.size 95 i0 (.int .u32 0) 1 4 Try.underlying24 hi hz0 hz1 hz2 rfl (by decide) _ _ _ rfl (HOWN.out.alloc _) ⟨wr.heap.size, 0, none⟩ 1 1 [.int .u32 ((addLo (lim a i) (lim b i) x : Nat) : Int)] rfl rfl ?c1 ?c2 ?c3 ?c4 ?c5 ?_)
          case c1 => exact cell_one_new _ _ _
          case c2 => simp [Value.oneCell']
          case c3 => rw [hlm.out]; omega
          case c4 => omega
          case c5 => simp; omega
          intro v' w1 hown' hgrow _
          have hown2 := own_cast hown' rfl
          have hb1 := (hbl.alloc hsz (.cells #[.int .u32 ((addLo (lim a i) (lim b i) x : Nat) : Int)] 95)).grown hgrow (by simp; omega) (fun k hk => (HOWN.out.lt k hk).1)
          have HOWN2 := Lib.hid hown2
          have HB1 := Lib.hid hb1
          clear hown' hown2 hb1 hgrow
          go_wp2
          go_roundg (m - (i + 1))
          case measure => omega
          case rel => exact ⟨i + 1, _, _, by omega, rfl, hhi, rfl, by go_num, HOWN2.out, HN.out, HB1.out⟩
      · have hlb : i < b.length := by have := hm4.out; omega
        have hza : lim a i = 0 := getD_ge (by omega)
        have HZA := Lib.hid hza
        clear hza
        obtain ⟨_, _, _, hv, _, _, _, k6⟩ := KS.out
        obtain ⟨rfl, rfl⟩ : q = _ ∧ cap' = _ := by simpa using hv
        obtain ⟨b2, o2, rfl, hb2, hc2⟩ := k6 (by omega)
        have hcb : wr.cell? ⟨b2, o2 + i, none⟩ = some (.int .u32 ((lim b i : Nat) : Int)) := (hbl.cell (p := ⟨b2, o2 + i, none⟩) hb2).trans (hc2 i hlb)
        clear hc2 k6 hv
        have hz1' : ((x : Int) + (lim b i : Nat)) % 4294967296 = ((addLo (lim a i) (lim b i) x : Nat) : Int) := by have := HZA.out; unfold addLo; omega
        have hz2' : ((x : Int) + (lim b i : Nat)) / 4294967296 = ((addHi (lim a i) (lim b i) x : Nat) : Int) := by have := HZA.out; unfold addHi; omega
        go_wp2_with (at_builtin; refine wpList_append_own _ rfl _ _ 24 rfl w.heap.size 95 i0 (.int .u32 0) 1 4 Try.underlying24 hi hz0 hz1 hz2 rfl (by decide) _ _ _ rfl (HOWN.out.alloc _) ⟨wr.heap.size, 0, none⟩ 1 1 [.int .u32 ((addLo (lim a i) (lim b i) x : Nat) : Int)] rfl rfl ?c1 ?c2 ?c3 ?c4 ?c5 ?_)
        case c1 => exact cell_one_new _ _ _
        case c2 => simp [Value.oneCell']
        case c3 => rw [hlm.out]; omega
        case c4 => omega
        case c5 => simp; omega
        intro v' w1 hown' hgrow _
        have hown2 := own_cast hown' rfl
        have hb1 := (hbl.alloc hsz (.cells #[.int .u32 ((addLo (lim a i) (lim b i) x : Nat) : Int)] 95)).grown hgrow (by simp; omega) (fun k hk => (HOWN.out.lt k hk).1)
        have HOWN2 := Lib.hid hown2
        have HB1 := Lib.hid hb1
        clear hown' hown2 hb1 hgrow
        go_wp2
        go_roundg (m - (i + 1))
        case measure => omega
        case rel => exact ⟨i + 1, _, _, by omega, rfl, hhi, rfl, by go_num, HOWN2.out, HN.out, HB1.out⟩
    · have hd := hrel.out.done (n := i) (by omega) (by omega)
      have HD1 := Lib.hid hd.1
      have hlb := hd.2
      have HOWN := Lib.hid hown
      clear hd hown
      go_wp2_with (at_builtin; refine wpList_append_own _ rfl _ _ 24 rfl w.heap.size 95 i0 (.int .u32 0) 1 4 Try.underlying24 hi hz0 hz1 hz2 rfl (by decide) _ _ _ rfl (HOWN.out.alloc _) ⟨wr.heap.size, 0, none⟩ 1 1 [.int .u32 (x : Int)] rfl rfl ?c1 ?c2 ?c3 ?c4 ?c5 ?_)
      case c1 => exact cell_one_new _ _ _
      case c2 => simp [Value.oneCell']
      case c3 => rw [hlm.out]; omega
      case c4 => omega
      case c5 => simp; omega
      intro v' w1 hown' hgrow _
      have hown2 := own_cast hown' rfl
      have hs2 := Sl.of_own hown2 hlb
      have HS2 := Lib.hid hs2
      have hb1 := (hbl.alloc hsz (.cells #[.int .u32 (x : Int)] 95)).grown hgrow (by simp; omega) (fun k hk => (HOWN.out.lt k hk).1)
      have HB1 := Lib.hid hb1
      clear hs2 hown2 hown' hb1 hgrow
      go_wp2_with fail
      refine (rtrim_c _ _ _ HS2.out).mono ?_
      rw [HD1.out]
      rintro e w' ⟨⟨a', cap'', hv, rfl, hs'⟩, rfl⟩
      clear hv
      have HS' := Lib.hid hs'
      clear hs'
      go_wp2_with fail
      go_ret
      exact ⟨_, rfl, HS'.out, HB1.out⟩
end Go.Proofs.Ytebmegodeglobaa

namespace Go.Proofs.Ytebmegodeglobaa
open Go.RowKit

/-- After i rounds of Diff. -/
def DiffRel (a b o : List Nat) (i c : Nat) : Prop := o.length = i ∧ Lb o ∧ c ≤ 1 ∧ val o + val (b.take i) = val (a.take i) + c * 4294967296 ^ i
theorem DiffRel.start (a b : List Nat) : DiffRel a b [] 0 0 := ⟨rfl, Lb.nil, by omega, by simp [val]⟩
theorem DiffRel.step {a b o : List Nat} {i c : Nat} (h : DiffRel a b o i c) (ha : Lb a) (hb : Lb b) : DiffRel a b (o ++ [subLo (lim a i) (lim b i) c]) (i + 1) (subHi (lim a i) (lim b i) c) := by
  obtain ⟨h1, h2, h3, h4⟩ := h
  have e0 := sub_eq (ha.getD i) (hb.getD i) h3
  have e2 := val_take_step a i
  have e3 := val_take_step b i
  refine ⟨by simp [h1], h2.append (Lb.cons (subLo_lt _ _ _) Lb.nil), subHi_le _ _ _, ?_⟩
  rw [val_append, h1, e2, e3, Nat.pow_succ]
  simp only [val]
  generalize subLo (lim a i) (lim b i) c = lo at *
  generalize subHi (lim a i) (lim b i) c = hi at *
  grind
theorem DiffRel.done {a b o : List Nat} {c : Nat} (h : DiffRel a b o a.length c) (hl : b.length ≤ a.length) (hle : val b ≤ val a) : val o = val a - val b ∧ Lb o := by
  obtain ⟨h1, h2, h3, h4⟩ := h
  rw [List.take_length, val_take_ge hl] at h4
  have := val_lt h2
  rw [h1] at this
  rcases Nat.eq_zero_or_pos c with h0 | h0
  · subst h0; exact ⟨by omega, h2⟩
  · have : c = 1 := by omega
    subst this; exact ⟨by omega, h2⟩

set_option maxRecDepth 100000 in
set_option maxHeartbeats 4000000 in
theorem Diff_c (w : World) (va vb : Value) (a b : List Nat) (h : Sl w va a) (k : Sl w vb b) (hl : b.length ≤ a.length) (hle : val b ≤ val a) (ha : a.length ≤ 1000000) :
    Calls Try.prog 69 #[va, vb] w (RetNat w (val a - val b)) := by
  have hs := h
  have ks := k
  obtain ⟨h0, p, cap, rfl, h2, h3, h5, h6⟩ := h
  obtain ⟨k0, q, cap', rfl, k2, k3, k5, k6⟩ := k
  have HS := Lib.hid hs
  have KS := Lib.hid ks
  obtain ⟨i0, hi, hz0, hz1, hz2⟩ := info_parts info32
  have hlm : Hid (maxLen = 9223372036854775807) := rfl
  clear hs ks h5 h6 k5 k6
  go_enter Try.func69, Try.ntmps69
  go_wp2
  go_loopg [5, 6, 7] a.length (fun g o c t wx => ∃ (i x : Nat) (l : List Nat), i ≤ a.length ∧ g = a.length - i ∧ x ≤ 1 ∧ c = .int .u64 (x : Int) ∧ t = .int .i64 (i : Int) ∧ wx.ownsRow w.heap.size 95 1 o i (l.map u32) ∧ Hid (DiffRel a b l i x) ∧ Below w.heap.size w wx)
  case atStart => exact ⟨0, 0, [], Nat.zero_le _, rfl, by omega, rfl, rfl, World.ownsRow_nil _ _ _ _, DiffRel.start a b, Below.refl _ w⟩
  case round =>
    obtain ⟨i, x, l, hile, rfl, hx, rfl, rfl, hown, hrel, hbl⟩ := hrel
    have hsz := hbl.size
    by_cases hlt : i < a.length
    · have hax := h0.getD i
      have hbx := k0.getD i
      have hnext := hrel.out.step h0 k0
      have HN := Lib.hid hnext
      have hhi := subHi_le (lim a i) (lim b i) x
      have hlo := subLo_lt (lim a i) (lim b i) x
      have HOWN := Lib.hid hown
      clear hown hnext
      obtain ⟨_, _, _, hv, _, _, _, h6⟩ := HS.out
      obtain ⟨rfl, rfl⟩ : p = _ ∧ cap = _ := by simpa using hv
      obtain ⟨b1, o1, rfl, hb1, hc1⟩ := h6 (by omega)
      have hca : wr.cell? ⟨b1, o1 + i, none⟩ = some (.int .u32 ((lim a i : Nat) : Int)) := (hbl.cell (p := ⟨b1, o1 + i, none⟩) hb1).trans (hc1 i hlt)
      clear hc1 h6 hv
      by_cases hlb : i < b.length
      · obtain ⟨_, _, _, hv, _, _, _, k6⟩ := KS.out
        obtain ⟨rfl, rfl⟩ : q = _ ∧ cap' = _ := by simpa using hv
        obtain ⟨b2, o2, rfl, hb2, hc2⟩ := k6 (by omega)
        have hcb : wr.cell? ⟨b2, o2 + i, none⟩ = some (.int .u32 ((lim b i : Nat) : Int)) := (hbl.cell (p := ⟨b2, o2 + i, none⟩) hb2).trans (hc2 i hlb)
        clear hc2 k6 hv
        rcases Nat.lt_or_ge (lim a i) (x + lim b i) with hxy | hxy
        · have hzl : ((lim a i : Nat) : Int) + 4294967296 - ((x : Int) + (lim b i : Nat)) = ((subLo (lim a i) (lim b i) x : Nat) : Int) := by unfold subLo; omega
          have hzh : ((subHi (lim a i) (lim b i) x : Nat) : Int) = 1 := by unfold subHi; rw [if_pos (by omega)]; rfl
          have HZH := Lib.hid hzh
          clear hzh
          go_wp2_with (at_builtin; refine wpList_append_own _ rfl _ _ 24 rfl w.heap.size 95 i0 (.int .u32 0) 1 4 Try.underlying24 hi hz0 hz1 hz2 rfl (by decide) _ _ _ rfl (HOWN.out.alloc _) ⟨wr.heap.size, 0, none⟩ 1 1 [.int .u32 ((subLo (lim a i) (lim b i) x : Nat) : Int)] rfl rfl ?c1 ?c2 ?c3 ?c4 ?c5 ?_)
          case c1 => exact cell_one_new _ _ _
          case c2 => simp [Value.oneCell']
          case c3 => rw [hlm.out]; omega
          case c4 => omega
          case c5 => simp; omega
          intro v' w1 hown' hgrow _
          have hown2 := own_cast hown' rfl
          have hb1 := (hbl.alloc hsz (.cells #[.int .u32 ((subLo (lim a i) (lim b i) x : Nat) : Int)] 95)).grown hgrow (by simp; omega) (fun k hk => (HOWN.out.lt k hk).1)
          have HOWN2 := Lib.hid hown2
          have HB1 := Lib.hid hb1
          clear hown' hown2 hb1 hgrow
          go_wp2
          go_roundg (a.length - (i + 1))
          case measure => omega
          case rel => exact ⟨i + 1, _, _, by omega, rfl, hhi, by rw [HZH.out], by go_num, HOWN2.out, HN.out, HB1.out⟩
        · have hzl : ((lim a i : Nat) : Int) - ((x : Int) + (lim b i : Nat)) = ((subLo (lim a i) (lim b i) x : Nat) : Int) := by unfold subLo; omega
          have hzh : ((subHi (lim a i) (lim b i) x : Nat) : Int) = 0 := by unfold subHi; rw [if_neg (by omega)]; rfl
          have HZH := Lib.hid hzh
          clear hzh
          go_wp2_with (at_builtin; refine wpList_append_own _ rfl _ _ 24 rfl w.heap.size 95 i0 (.int .u32 0) 1 4 Try.underlying24 hi hz0 hz1 hz2 rfl (by decide) _ _ _ rfl (HOWN.out.alloc _) ⟨wr.heap.size, 0, none⟩ 1 1 [.int .u32 ((subLo (lim a i) (lim b i) x : Nat) : Int)] rfl rfl ?c1 ?c2 ?c3 ?c4 ?c5 ?_)
          case c1 => exact cell_one_new _ _ _
          case c2 => simp [Value.oneCell']
          case c3 => rw [hlm.out]; omega
          case c4 => omega
          case c5 => simp; omega
          intro v' w1 hown' hgrow _
          have hown2 := own_cast hown' rfl
          have hb1 := (hbl.alloc hsz (.cells #[.int .u32 ((subLo (lim a i) (lim b i) x : Nat) : Int)] 95)).grown hgrow (by simp; omega) (fun k hk => (HOWN.out.lt k hk).1)
          have HOWN2 := Lib.hid hown2
          have HB1 := Lib.hid hb1
          clear hown' hown2 hb1 hgrow
          go_wp2
          go_roundg (a.length - (i + 1))
          case measure => omega
          case rel => exact ⟨i + 1, _, _, by omega, rfl, hhi, by rw [HZH.out], by go_num, HOWN2.out, HN.out, HB1.out⟩
      · have hzb : lim b i = 0 := getD_ge (by omega)
        have HZB := Lib.hid hzb
        clear hzb
        rcases Nat.lt_or_ge (lim a i) (x) with hxy | hxy
        · have hzl : ((lim a i : Nat) : Int) + 4294967296 - ((x : Int)) = ((subLo (lim a i) (lim b i) x : Nat) : Int) := by have := HZB.out; unfold subLo; omega
          have hzh : ((subHi (lim a i) (lim b i) x : Nat) : Int) = 1 := by have := HZB.out; unfold subHi; rw [if_pos (by omega)]; rfl
          have HZH := Lib.hid hzh
          clear hzh
          go_wp2_with (at_builtin; refine wpList_append_own _ rfl _ _ 24 rfl w.heap.size 95 i0 (.int .u32 0) 1 4 Try.underlying24 hi hz0 hz1 hz2 rfl (by decide) _ _ _ rfl (HOWN.out.alloc _) ⟨wr.heap.size, 0, none⟩ 1 1 [.int .u32 ((subLo (lim a i) (lim b i) x : Nat) : Int)] rfl rfl ?c1 ?c2 ?c3 ?c4 ?c5 ?_)
          case c1 => exact cell_one_new _ _ _
          case c2 => simp [Value.oneCell']
          case c3 => rw [hlm.out]; omega
          case c4 => omega
          case c5 => simp; omega
          intro v' w1 hown' hgrow _
          have hown2 := own_cast hown' rfl
          have hb1 := (hbl.alloc hsz (.cells #[.int .u32 ((subLo (lim a i) (lim b i) x : Nat) : Int)] 95)).grown hgrow (by simp; omega) (fun k hk => (HOWN.out.lt k hk).1)
          have HOWN2 := Lib.hid hown2
          have HB1 := Lib.hid hb1
          clear hown' hown2 hb1 hgrow
          go_wp2
          go_roundg (a.length - (i + 1))
          case measure => omega
          case rel => exact ⟨i + 1, _, _, by omega, rfl, hhi, by rw [HZH.out], by go_num, HOWN2.out, HN.out, HB1.out⟩
        · have hzl : ((lim a i : Nat) : Int) - ((x : Int)) = ((subLo (lim a i) (lim b i) x : Nat) : Int) := by have := HZB.out; unfold subLo; omega
          have hzh : ((subHi (lim a i) (lim b i) x : Nat) : Int) = 0 := by have := HZB.out; unfold subHi; rw [if_neg (by omega)]; rfl
          have HZH := Lib.hid hzh
          clear hzh
          go_wp2_with (at_builtin; refine wpList_append_own _ rfl _ _ 24 rfl w.heap.size 95 i0 (.int .u32 0) 1 4 Try.underlying24 hi hz0 hz1 hz2 rfl (by decide) _ _ _ rfl (HOWN.out.alloc _) ⟨wr.heap.size, 0, none⟩ 1 1 [.int .u32 ((subLo (lim a i) (lim b i) x : Nat) : Int)] rfl rfl ?c1 ?c2 ?c3 ?c4 ?c5 ?_)
          case c1 => exact cell_one_new _ _ _
          case c2 => simp [Value.oneCell']
          case c3 => rw [hlm.out]; omega
          case c4 => omega
          case c5 => simp; omega
          intro v' w1 hown' hgrow _
          have hown2 := own_cast hown' rfl
          have hb1 := (hbl.alloc hsz (.cells #[.int .u32 ((subLo (lim a i) (lim b i) x : Nat) : Int)] 95)).grown hgrow (by simp; omega) (fun k hk => (HOWN.out.lt k hk).1)
          have HOWN2 := Lib.hid hown2
          have HB1 := Lib.hid hb1
          clear hown' hown2 hb1 hgrow
          go_wp2
          go_roundg (a.length - (i + 1))
          case measure => omega
          case rel => exact ⟨i + 1, _, _, by omega, rfl, hhi, by rw [HZH.out], by go_num, HOWN2.out, HN.out, HB1.out⟩
    · obtain rfl : i = a.length := by omega
      have hd := hrel.out.done hl hle
      have HD1 := Lib.hid hd.1
      have hlb := hd.2
      have hs2 := Sl.of_own hown hlb
      have HS2 := Lib.hid hs2
      have HB1 := Lib.hid hbl
      clear hd hown hs2 hbl
      go_wp2_with fail
      refine (rtrim_c _ _ _ HS2.out).mono ?_
      rw [HD1.out]
      rintro e w' ⟨⟨a', cap'', hv, rfl, hs'⟩, rfl⟩
      clear hv
      have HS' := Lib.hid hs'
      clear hs'
      go_wp2_with fail
      go_ret
      exact ⟨_, rfl, HS'.out, HB1.out⟩

end Go.Proofs.Ytebmegodeglobaa

namespace Go.Proofs.Ytebmegodeglobaa

/-- The number of binary digits. -/
def bl (n : Nat) : Nat := if n = 0 then 0 else bl (n / 2) + 1
termination_by n
decreasing_by omega
theorem bl_zero : bl 0 = 0 := by rw [bl]; simp
theorem bl_pos {n : Nat} (h : 0 < n) : bl n = bl (n / 2) + 1 := by rw [bl, if_neg (by omega)]
theorem lt_bl (n : Nat) : n < 2 ^ bl n := by
  induction n using Nat.strongRecOn with
  | _ n ih =>
    rcases Nat.eq_zero_or_pos n with h | h
    · subst h; rw [bl_zero]; simp
    · have := ih (n / 2) (by omega)
      rw [bl_pos h, Nat.pow_succ]; omega
theorem bl_le {n : Nat} (h : 0 < n) : 2 ^ bl n ≤ 2 * n := by
  induction n using Nat.strongRecOn with
  | _ n ih =>
    rw [bl_pos h, Nat.pow_succ]
    rcases Nat.eq_zero_or_pos (n / 2) with h2 | h2
    · rw [h2, bl_zero]; omega
    · have := ih (n / 2) (by omega) h2
      omega
theorem bl_le_of_lt {n k : Nat} (h : n < 2 ^ k) : bl n ≤ k := by
  rcases Nat.eq_zero_or_pos n with h0 | h0
  · subst h0; rw [bl_zero]; omega
  · have h1 := bl_le h0
    rcases Nat.lt_or_ge k (bl n) with hlt | hge
    · have := Nat.pow_le_pow_right (n := 2) (by omega) (show k + 1 ≤ bl n by omega)
      rw [Nat.pow_succ] at this; omega
    · exact hge
theorem bl_small {n : Nat} (h : n < 4294967296) : bl n ≤ 32 := bl_le_of_lt (by simpa using h)
theorem bl_uniq {n k : Nat} (h1 : n < 2 ^ k) (h2 : 2 ^ k ≤ 2 * n) : bl n = k := by
  have a := bl_le_of_lt h1
  rcases Nat.lt_or_ge (bl n) k with hlt | hge
  · have h3 := lt_bl n
    have := Nat.pow_le_pow_right (n := 2) (by omega) (show bl n + 1 ≤ k by omega)
    rw [Nat.pow_succ] at this; omega
  · omega
theorem two_pow (k : Nat) : (4294967296 : Nat) ^ k = 2 ^ (32 * k) := by rw [show (4294967296 : Nat) = 2 ^ 32 by decide, Nat.pow_mul]
/-- The binary digits of a number, by its last limb. -/
theorem bl_limbs {n : Nat} (h : 0 < n) : bl n = 32 * ((limbs n).length - 1) + bl (lim (limbs n) ((limbs n).length - 1)) := by
  have hp := limbs_len_pos h
  have hv := val_take_succ (l := limbs n) (k := (limbs n).length - 1) (by omega)
  rw [show (limbs n).length - 1 + 1 = (limbs n).length by omega, List.take_length, val_limbs] at hv
  have hlt := val_lt ((limbs_lb n).take ((limbs n).length - 1))
  rw [List.length_take, show min ((limbs n).length - 1) (limbs n).length = (limbs n).length - 1 by omega] at hlt
  have hne := limbs_last h
  generalize lim (limbs n) ((limbs n).length - 1) = top at *
  generalize val ((limbs n).take ((limbs n).length - 1)) = low at *
  rw [two_pow] at hlt hv
  generalize 32 * ((limbs n).length - 1) = m at *
  have h1 := lt_bl top
  have h2 := bl_le (n := top) (by omega)
  apply bl_uniq
  · rw [Nat.pow_add]
    have : (top + 1) * 2 ^ m ≤ 2 ^ bl top * 2 ^ m := Nat.mul_le_mul_right _ h1
    rw [Nat.add_mul] at this
    rw [Nat.mul_comm (2 ^ m)]
    omega
  · rw [Nat.pow_add]
    have : 2 ^ bl top * 2 ^ m ≤ 2 * top * 2 ^ m := Nat.mul_le_mul_right _ h2
    rw [Nat.mul_assoc] at this
    rw [Nat.mul_comm (2 ^ m)]
    omega
theorem bl_len (n : Nat) : bl n ≤ 32 * (limbs n).length := by
  have := lt_limbs n
  rw [two_pow] at this
  exact bl_le_of_lt this

/-- A limb of a half. -/
def halfL (a : List Nat) (i : Nat) : Nat := lim a i / 2 + lim a (i + 1) % 2 * 2147483648
theorem halfL_lt {a : List Nat} (h : Lb a) (i : Nat) : halfL a i < 4294967296 := by
  have := h.getD i
  unfold halfL; omega
theorem half_or {x y : Nat} (hx : x < 4294967296) : (x / 2) ||| (y * 2147483648 % 4294967296) = x / 2 + y % 2 * 2147483648 := by
  have e : y * 2147483648 % 4294967296 = 2 ^ 31 * (y % 2) := by omega
  rw [e, Nat.or_comm, ← Nat.two_pow_add_eq_or_of_lt (by omega)]
  omega
/-- After i rounds of half. -/
def HalfRel (a o : List Nat) (i : Nat) : Prop := o.length = a.length ∧ Lb o ∧ val (o.take i) = val (a.take i) / 2 + (if i = 0 then 0 else lim a i % 2 * 2147483648 * 4294967296 ^ (i - 1)) ∧ True
theorem HalfRel.start (a : List Nat) : HalfRel a (List.replicate a.length 0) 0 := ⟨by simp, Lb.replicate _ (by omega), by simp [val], trivial⟩
theorem HalfRel.step {a o : List Nat} {i : Nat} (h : HalfRel a o i) (ha : Lb a) (hi : i < a.length) : HalfRel a (o.set i (halfL a i)) (i + 1) := by
  obtain ⟨h1, h2, h3, _⟩ := h
  refine ⟨by simp [h1], h2.set _ (halfL_lt ha i), ?_, trivial⟩
  rw [val_take_step (o.set i _), lim_set_eq (by omega), val_take_step a]
  have e : (o.set i (halfL a i)).take i = o.take i := by
    apply List.ext_getElem?
    intro k
    rw [List.getElem?_take, List.getElem?_take]
    split
    · rw [List.getElem?_set_ne (by omega)]
    · rfl
  rw [e, h3]
  unfold halfL
  cases i with
  | zero =>
    simp only [Nat.pow_zero, Nat.mul_one, Nat.zero_add, List.take_zero, val]
    simp
  | succ k =>
    rw [if_neg (by omega), if_neg (by omega)]
    simp only [Nat.add_sub_cancel, Nat.pow_succ]
    generalize lim a (k + 1) = x
    generalize lim a (k + 1 + 1) = y
    generalize val (List.take (k + 1) a) = v
    generalize 4294967296 ^ k = p
    have hx : x = 2 * (x / 2) + x % 2 := by omega
    have e1 : (v + x * (p * 4294967296)) / 2 = v / 2 + x / 2 * (p * 4294967296) + x % 2 * (p * 2147483648) := by
      have : v + x * (p * 4294967296) = v + 2 * (x / 2 * (p * 4294967296) + x % 2 * (p * 2147483648)) := by
        generalize x / 2 = xq at *
        generalize x % 2 = xr at *
        subst hx
        grind
      rw [this, Nat.add_mul_div_left _ _ (by omega)]; omega
    rw [e1]
    generalize y % 2 = yr
    generalize x / 2 = xq
    generalize x % 2 = xr
    grind
theorem HalfRel.done {a o : List Nat} (h : HalfRel a o a.length) : val o = val a / 2 := by
  obtain ⟨h1, h2, h3, _⟩ := h
  rw [List.take_length, ← h1, List.take_length, h1] at h3
  rw [h3]
  split
  · rfl
  · rw [getD_ge (Nat.le_refl _)]; simp

/-- The state of a division, z rounds before its end less 1. -/
def QRel (A B : Nat) (z : Int) (q a b : Nat) : Prop :=
  (z < 0 → A = q * B + a ∧ a < B) ∧ (0 ≤ z → b = B * 2 ^ z.toNat ∧ A = q * (B * 2 ^ (z.toNat + 1)) + a ∧ a < B * 2 ^ (z.toNat + 1))
theorem QRel.start {A B b : Nat} {i : Nat} {s : Int} (hB : 0 < B) (hs : s = (bl A : Int) - bl B) (hi : s ≤ i) (hi' : i = 0 ∨ (i : Int) ≤ s) (hb : b = B * 2 ^ i) : QRel A B s 0 A b := by
  have h1 := lt_bl A
  have h2 := bl_le hB
  constructor
  · intro hz
    refine ⟨by omega, ?_⟩
    have := Nat.pow_le_pow_right (n := 2) (by omega) (show bl A + 1 ≤ bl B by omega)
    rw [Nat.pow_succ] at this; omega
  · intro hz
    have e : s.toNat = i := by omega
    rw [e]
    refine ⟨hb, by omega, ?_⟩
    have e2 : bl A = bl B + i := by omega
    rw [e2, Nat.pow_add] at h1
    have : 2 ^ bl B * 2 ^ i ≤ 2 * B * 2 ^ i := Nat.mul_le_mul_right _ h2
    rw [Nat.pow_succ]
    have e3 : B * (2 ^ i * 2) = 2 * B * 2 ^ i := by grind
    omega
theorem QRel.size {A B : Nat} {z : Int} {q a b : Nat} (h : QRel A B z q a b) (hB : 0 < B) : q ≤ A ∧ a ≤ A := by
  rcases Int.lt_or_le z 0 with hz | hz
  · obtain ⟨h1, _⟩ := h.1 hz
    have := Nat.le_mul_of_pos_right q hB
    omega
  · obtain ⟨_, h1, _⟩ := h.2 hz
    have := Nat.le_mul_of_pos_right q (Nat.mul_pos hB (Nat.pow_pos (n := z.toNat + 1) (show 0 < 2 by omega)))
    omega
theorem QRel.yes {A B : Nat} {z : Int} {q a b : Nat} (h : QRel A B z q a b) (hz : 0 ≤ z) (hle : b ≤ a) : QRel A B (z - 1) (2 * q + 1) (a - b) (b / 2) := by
  obtain ⟨h1, h2, h3⟩ := h.2 hz
  rw [Nat.pow_succ] at h2 h3
  constructor
  · intro hz1
    have e : z.toNat = 0 := by omega
    rw [e] at h1 h2 h3
    simp only [Nat.pow_zero, Nat.mul_one, Nat.one_mul] at h1 h2 h3
    subst h1
    constructor
    · have : q * (b * 2) = 2 * (q * b) := by grind
      have e : (2 * q + 1) * b = 2 * (q * b) + b := by grind
      omega
    · omega
  · intro hz1
    obtain ⟨k, hk⟩ : ∃ k : Nat, z = k + 1 := ⟨(z - 1).toNat, by omega⟩
    have e1 : z.toNat = k + 1 := by omega
    have e2 : (z - 1).toNat = k := by omega
    rw [e1] at h1 h2 h3
    rw [e2]
    rw [Nat.pow_succ] at h1 h2 h3 ⊢
    generalize 2 ^ k = p at *
    have hb2 : b / 2 = B * p := by
      have e : B * (p * 2) = 2 * (B * p) := by grind
      omega
    refine ⟨hb2, ?_, ?_⟩
    · have e : (2 * q + 1) * (B * (p * 2)) = q * (B * (p * 2 * 2)) + B * (p * 2) := by grind
      omega
    · have e : B * (p * 2 * 2) = 2 * (B * (p * 2)) := by grind
      omega
theorem QRel.no {A B : Nat} {z : Int} {q a b : Nat} (h : QRel A B z q a b) (hz : 0 ≤ z) (hlt : a < b) : QRel A B (z - 1) (2 * q) a (b / 2) := by
  obtain ⟨h1, h2, h3⟩ := h.2 hz
  rw [Nat.pow_succ] at h2 h3
  constructor
  · intro hz1
    have e : z.toNat = 0 := by omega
    rw [e] at h1 h2 h3
    simp only [Nat.pow_zero, Nat.mul_one, Nat.one_mul] at h1 h2 h3
    subst h1
    exact ⟨by rw [h2]; grind, by omega⟩
  · intro hz1
    obtain ⟨k, hk⟩ : ∃ k : Nat, z = k + 1 := ⟨(z - 1).toNat, by omega⟩
    have e1 : z.toNat = k + 1 := by omega
    have e2 : (z - 1).toNat = k := by omega
    rw [e1] at h1 h2 h3
    rw [e2]
    rw [Nat.pow_succ] at h1 h2 h3 ⊢
    generalize 2 ^ k = p at *
    have hb2 : b / 2 = B * p := by
      have e : B * (p * 2) = 2 * (B * p) := by grind
      omega
    refine ⟨hb2, ?_, by omega⟩
    have e : (2 * q) * (B * (p * 2)) = q * (B * (p * 2 * 2)) := by grind
    omega
theorem QRel.done {A B : Nat} {z : Int} {q a b : Nat} (h : QRel A B z q a b) (hz : z < 0) : q = A / B ∧ a = A % B := by
  obtain ⟨h1, h2⟩ := h.1 hz
  have hB : 0 < B := by omega
  subst h1
  rw [Nat.mul_comm q B, Nat.mul_add_div hB, Nat.mul_add_mod, Nat.div_eq_of_lt h2, Nat.mod_eq_of_lt h2]
  exact ⟨by omega, rfl⟩
end Go.Proofs.Ytebmegodeglobaa

namespace Go.Proofs.Ytebmegodeglobaa
open Go.RowKit

theorem bl_half {g z : Nat} (h : 0 < z) (e : g = bl z) : bl (z / 2) + 1 = g := by rw [e, bl_pos h]

theorem half_bits {x y h : Nat} (hx : x < 4294967296) (hh : h = x / 2 + y % 2 * 2147483648) : bits .or .u32 ((x : Int) / 2) ((y : Int) * 2147483648 % 4294967296) = (h : Int) := by
  have e1 : (x : Int) / 2 = ((x / 2 : Nat) : Int) := by omega
  have e2 : (y : Int) * 2147483648 % 4294967296 = ((y * 2147483648 % 4294967296 : Nat) : Int) := by omega
  rw [e1, e2, u32_or_nat _ _ (by omega) (by omega), half_or hx, hh]
theorem halfL_eq (a : List Nat) (i : Nat) : halfL a i = lim a i / 2 + lim a (i + 1) % 2 * 2147483648 := by unfold halfL; rfl

set_option maxHeartbeats 400000 in
theorem bits_c (w : World) (v : Value) (n : Nat) (h : Sl w v (limbs n)) (hn : (limbs n).length ≤ 1000000) :
    Calls Try.prog 67 #[v] w (fun e w' => e = .returned (.int .i64 (bl n : Int)) ∧ ∃ k, w' = w.drewN k) := by
  rcases Nat.eq_zero_or_pos n with hz | hpos
  · subst hz
    rw [limbs_zero] at h
    rw [bl_zero]
    obtain ⟨h0, p, cap, rfl, h2, h3, h5, h6⟩ := h
    clear h5 h6 hn
    simp only [List.length_nil]
    go_enter Try.func67, Try.ntmps67
    go_wp2
    go_ret
    exact ⟨rfl, 0, rfl⟩
  · have hl := limbs_len_pos hpos
    have hb := Lib.hid (bl_limbs hpos)
    obtain ⟨h0, p, cap, rfl, h2, h3, h5, h6⟩ := h
    obtain ⟨b, off, rfl, _, hc⟩ := h6 hl
    have hc0 := hc ((limbs n).length - 1) (by omega)
    have hlx := h0.getD ((limbs n).length - 1)
    clear hc h6 h5 h0
    generalize lim (limbs n) ((limbs n).length - 1) = top at *
    generalize (limbs n).length = m at *
    generalize bl n = r at *
    have hbt := bl_small hlx
    have hne : ((m : Int) == 0) = false := by rw [beq_eq_false_iff_ne]; omega
    have hcast : 32 * ((m : Int) - 1) = ((32 * (m - 1) : Nat) : Int) := by omega
    go_enter Try.func67, Try.ntmps67
    go_wp2
    go_loopg [3, 4] (bl top) (fun g c x wx => ∃ z : Nat, z ≤ top ∧ Hid (g = bl z) ∧ g ≤ bl top ∧ c = .int .i64 ((32 * (m - 1) + bl top - g : Nat) : Int) ∧ x = .int .u32 (z : Int) ∧ wx = w)
    case atStart => exact ⟨top, Nat.le_refl _, rfl, Nat.le_refl _, by rw [Nat.add_sub_cancel]; first | rfl | (rw [← hcast]), rfl, rfl⟩
    case round =>
      obtain ⟨z, hz, hg, hgl, rfl, rfl, rfl⟩ := hrel
      rcases Nat.eq_zero_or_pos z with hz0 | hzp
      · subst hz0
        have hg0 : gk = 0 := by rw [hg.out, bl_zero]
        subst hg0
        go_wp2
        go_ret
        exact ⟨by rw [hb.out]; rfl, 0, rfl⟩
      · have hg2 := bl_half hzp hg.out
        have HG2 := Lib.hid hg2
        clear hg2
        have hgp : 1 ≤ gk := by rw [← HG2.out]; omega
        go_wp2
        go_roundg (gk - 1)
        case measure => omega
        case rel => exact ⟨z / 2, by omega, by rw [← HG2.out]; rfl, by omega, by go_num, by go_num, rfl⟩

set_option maxHeartbeats 400000 in
theorem double_c (w : World) (v : Value) (n : Nat) (one : Bool) (h : Sl w v (limbs n)) (hn : (limbs n).length ≤ 900000) :
    Calls Try.prog 68 #[v, .bool one] w (RetNat w (2 * n + one.toNat)) := by
  have h2n := limbs_add_len n n
  have e2 : val (limbs n) + val (limbs n) = 2 * n := by rw [val_limbs]; omega
  have E2 := Lib.hid e2
  have HS := Lib.hid h
  have hl2 : Hid ((limbs (2 * n)).length ≤ 1000000) := by show _ ≤ _; rw [← Nat.two_mul] at h2n; omega
  obtain ⟨p, cp, rfl, hp1, hp2⟩ := h.shape
  clear h e2 h2n
  cases one with
  | false =>
    go_enter Try.func68, Try.ntmps68
    go_wp2_with fail
    refine (Sum_c _ _ _ _ _ HS.out HS.out (by omega) (by omega)).mono ?_
    rw [E2.out]
    rintro e w1 ⟨v1, rfl, hv1, hb1⟩
    have HV := Lib.hid hv1
    have HB := Lib.hid hb1
    clear hv1 hb1
    go_wp2_with fail
    go_ret
    exact ⟨_, rfl, HV.out, HB.out⟩
  | true =>
    go_enter Try.func68, Try.ntmps68
    go_wp2_with fail
    refine (Sum_c _ _ _ _ _ HS.out HS.out (by omega) (by omega)).mono ?_
    rw [E2.out]
    rintro e w1 ⟨v1, rfl, hv1, hb1⟩
    obtain ⟨p2, cp2, rfl, hp3, hp4⟩ := hv1.shape
    have HV := Lib.hid hv1
    have HB := Lib.hid hb1
    clear hv1 hb1
    go_wp2_with fail
    have hr := Row32.lit1 w1 1 1 rfl
    have hs := Sl.of_row (cap := 1) hr (Lb.cons (by omega) Lb.nil) (by simp) (by omega)
    have HS1 := Lib.hid hs
    clear hr hs
    refine (Sum_c _ _ _ _ _ (HV.out.alloc _) HS1.out (by have := hl2.out; omega) (by simp)).mono ?_
    rintro e w2 ⟨v2, rfl, hv2, hb2⟩
    have HV2 := Lib.hid hv2
    have HB2 := Lib.hid (HB.out.trans ((((Below.refl _ w1).alloc (Nat.le_refl _) (.cells #[.int .u32 1] 95)).trans (hb2.mono (by simp))).mono HB.out.size))
    clear hv2 hb2
    go_wp2_with fail
    go_ret
    exact ⟨_, rfl, by have := HV2.out; rw [val_limbs] at this; exact this, HB2.out⟩

end Go.Proofs.Ytebmegodeglobaa

namespace Go.Proofs.Ytebmegodeglobaa
open Go.RowKit

set_option maxRecDepth 100000 in
set_option maxHeartbeats 2000000 in
theorem half_c (w : World) (va : Value) (n : Nat) (h : Sl w va (limbs n)) (ha : (limbs n).length ≤ 1000000) :
    Calls Try.prog 70 #[va] w (RetNat w (n / 2)) := by
  have hvn := Lib.hid (val_limbs n)
  generalize limbs n = a at *
  have hs := h
  obtain ⟨h0, p, cap, rfl, h2, h3, h5, h6⟩ := h
  have HS := Lib.hid hs
  clear hs h5 h6
  have hmk := run_make32 a.length (by omega)
  go_enter Try.func70, Try.ntmps70
  go_wp2
  go_loopg [4] a.length (fun g t wx => ∃ (i : Nat) (o : List Nat), i ≤ a.length ∧ g = a.length - i ∧ t = .int .i64 (i : Int) ∧ Row32 wx w.heap.size o ∧ Hid (HalfRel a o i) ∧ Below w.heap.size w wx)
  case atStart => exact ⟨0, _, Nat.zero_le _, rfl, rfl, Row32.made w _, HalfRel.start a, (Below.refl _ w).alloc (Nat.le_refl _) _⟩
  case round =>
    obtain ⟨i, o, hi, rfl, rfl, hrow, hrel, hbl⟩ := hrel
    have r1 := hrel.out.1
    have r2 := hrel.out.2.1
    have hsz := hbl.size
    by_cases hlt : i < a.length
    · obtain ⟨_, _, _, hv, _, _, _, h6⟩ := HS.out
      obtain ⟨rfl, rfl⟩ : p = _ ∧ cap = _ := by simpa using hv
      obtain ⟨b1, o1, rfl, hb1, hc1⟩ := h6 (by omega)
      have hca : wr.cell? ⟨b1, o1 + i, none⟩ = some (.int .u32 ((lim a i : Nat) : Int)) := (hbl.cell (p := ⟨b1, o1 + i, none⟩) hb1).trans (hc1 i hlt)
      have hrc := hrow.cell (i := i) (by omega)
      have hrf := hrow.frozen i
      have HROW := Lib.hid hrow
      have hax := h0.getD i
      have hnext := Lib.hid (hrel.out.step h0 hlt)
      by_cases hl2 : i + 1 < a.length
      · have hcb : wr.cell? ⟨b1, o1 + (i + 1), none⟩ = some (.int .u32 ((lim a (i + 1) : Nat) : Int)) := (hbl.cell (p := ⟨b1, o1 + (i + 1), none⟩) hb1).trans (hc1 (i + 1) hl2)
        have hbx := h0.getD (i + 1)
        have hor := half_bits (y := lim a (i + 1)) hax (halfL_eq a i)
        generalize halfL a i = hh at *
        have hX0 : (0 : Int) ≤ ((lim a i : Nat) : Int) := by omega
        have hX1 : ((lim a i : Nat) : Int) < 4294967296 := by omega
        have hY0 : (0 : Int) ≤ ((lim a (i + 1) : Nat) : Int) := by omega
        have hY1 : ((lim a (i + 1) : Nat) : Int) < 4294967296 := by omega
        have hr5 := HROW.out.set' i (lim a i / 2) (z := ((lim a i : Nat) : Int) / 2) (by omega)
        have hb5 := hbl.setCell (p := ⟨w.heap.size, i, none⟩) (Nat.le_refl _) (.int .u32 (((lim a i : Nat) : Int) / 2))
        have hb5' : (wr.setCell ⟨w.heap.size, i, none⟩ (.int .u32 (((lim a i : Nat) : Int) / 2))).cell? ⟨b1, o1 + (i + 1), none⟩ = some (.int .u32 ((lim a (i + 1) : Nat) : Int)) := (hb5.cell (p := ⟨b1, o1 + (i + 1), none⟩) hb1).trans (hc1 (i + 1) hl2)
        have hc5 := hr5.cell (i := i) (by rw [List.length_set]; omega)
        have hf5 := hr5.frozen i
        rw [lim_set_eq (by omega)] at hc5
        have hX2 : ((lim a i / 2 : Nat) : Int) = ((lim a i : Nat) : Int) / 2 := by omega
        rw [hX2] at hc5
        have HR5 := Lib.hid hr5
        have HB5 := Lib.hid hb5
        clear hc1 h6 hv hrow hmk r1 r2 hax hbx hX2 hcb hr5 hb5
        generalize hgX : ((lim a i : Nat) : Int) = X at *
        generalize hgY : ((lim a (i + 1) : Nat) : Int) = Y at *
        generalize hgH : ((hh : Nat) : Int) = H at hor
        have HGX := Lib.hid hgX
        have HGH := Lib.hid hgH
        clear hgX hgY hgH
        go_wp2_with fail
        obtain ⟨w5, hw5⟩ : ∃ w5, wr.setCell ⟨w.heap.size, i, none⟩ (.int .u32 (X / 2)) = w5 := ⟨_, rfl⟩
        rw [hw5] at hb5' hc5 hf5 HR5 HB5 ⊢
        clear hw5
        have hX20 : (0 : Int) ≤ X / 2 := by omega
        have hX21 : X / 2 < 4294967296 := by omega
        clear hX0 hX1 hrc hrf hca
        generalize X / 2 = X2 at *
        go_region
        go_wp2
        go_roundg (a.length - (i + 1))
        case measure => omega
        case rel => exact ⟨i + 1, _, by omega, rfl, by go_num, (HR5.out.set' i hh HGH.out.symm).drew_, by rw [List.set_set]; exact hnext.out, (HB5.out.setCell (Nat.le_refl _) _).drew⟩
      · have hzb : halfL a i = lim a i / 2 := by unfold halfL; rw [getD_ge (show a.length ≤ i + 1 by omega)]; omega
        rw [hzb] at hnext
        have HZB := Lib.hid hzb
        clear hc1 h6 hv hrow hmk r1 r2 hzb
        go_wp2
        go_roundg (a.length - (i + 1))
        case measure => omega
        case rel => exact ⟨i + 1, _, by omega, rfl, by go_num, HROW.out.set' i (lim a i / 2) (by omega), hnext.out, hbl.setCell (Nat.le_refl _) _⟩
    · obtain rfl : i = a.length := by omega
      have hs2 := Sl.of_row (cap := a.length) hrow r2 (by omega) (by omega)
      rw [r1] at hs2
      have hd := hrel.out.done
      rw [hvn.out] at hd
      have HS2 := Lib.hid hs2
      have D1 := Lib.hid hd
      clear hrow hmk r1 hs2 hd
      go_wp2_with fail
      refine (rtrim_c _ _ _ HS2.out).mono ?_
      rw [D1.out]
      rintro e w' ⟨⟨a', cap'', hv, rfl, hs'⟩, rfl⟩
      clear hv
      have HS' := Lib.hid hs'
      clear hs'
      go_wp2
      go_ret
      exact ⟨_, rfl, HS'.out, hbl⟩
end Go.Proofs.Ytebmegodeglobaa
