/- Walks: times, short.
   Walks of the reference: Diff, Product.
   Plain: the number of binary digits, halves, and division by shifts and subtractions. No program in sight.
   Fractions as data: a sign and two lists of limbs; when they are valid; what the operations return. No program in sight.
   DERIVED: THE SHELF's CONTRACTS AT THIS DUMP, IN PLAIN WORDS (tools/lay-plain.mjs out of 'TryShelf.lean', which tools/lay-shelf.mjs wrote): THE SAME DECLARATIONS UNDER THE SAME NAMES: 'import', 'namespace', 'open', 'def', 'theorem' AND NOTHING ELSE: no command of the shelf's: FOR A HAND-IN. Each laying: the table of numbers ('.._ren') and one theorem, a field a fact of the dump's own or the kernel's comparison; each contract: ONE APPLICATION. -/
import Derived.Test.YtjjefdkadgkhfaaK01
import Derived.Test.YtjjefdkadgkhfaaK02
import Derived.Deep.QuietTactic
import Derived.BigQuiet
import Derived.Shelf.Small.Bits
import Derived.Shelf.Slices.Equal
import Derived.Ground.Names2Prog
import Derived.Shelf.Slices.Clone
import Derived.Shelf.Slices.Empties2
import Derived.Test.YtjjefdkadgkhfaaProg
set_option linter.unusedVariables false
namespace Go.Proofs.Ytjjefdkadgkhfaa
open Go.RowKit

theorem cast_mulHi (c o x y : Nat) : ((mulHi c o x y : Nat) : Int) = ((c : Int) + ((o : Int) + (x : Int) * (y : Int))) / 4294967296 := by
  unfold mulHi; rw [Int.natCast_ediv, Int.natCast_add, Int.natCast_add, Int.natCast_mul]; rfl
theorem cast_mulLo (c o x y : Nat) : ((mulLo c o x y : Nat) : Int) = ((c : Int) + ((o : Int) + (x : Int) * (y : Int))) % 4294967296 := by
  unfold mulLo; rw [Int.natCast_emod, Int.natCast_add, Int.natCast_add, Int.natCast_mul]; rfl
/-- The results are a quotient and a remainder of one limb. -/
def RetShort (w : World) (q r : Nat) (e : Ending) (w' : World) : Prop := ∃ v, e = .returned (.tuple #[v, .int .u32 (r : Int)]) ∧ Sl w' v (limbs q) ∧ Below w.heap.size w w'

set_option maxRecDepth 100000 in
set_option maxHeartbeats 1000000 in
/-- times: the product, as a number of its own. -/
theorem times_c (w : World) (va vb : Value) (a b : List Nat) (h : Sl w va a) (k : Sl w vb b) (ha : a.length ≤ 1000000) (hb : b.length ≤ 1000000) :
    Calls Try.prog 35 #[va, vb] w (RetNat w (val a * val b)) := by
  have hs := h
  have ks := k
  obtain ⟨h0, p, cap, rfl, h2, h3, h5, h6⟩ := h
  obtain ⟨k0, q, cap', rfl, k2, k3, k5, k6⟩ := k
  have HS := Lib.hid hs
  have KS := Lib.hid ks
  clear hs ks h5 h6 k5 k6
  have hmk := run_make32 (a.length + b.length) (by omega)
  rw [show ((a.length + b.length : Nat) : Int) = (a.length : Int) + b.length from by omega] at hmk
  go_enter Try.func35, Try.ntmps35
  go_wp2
  go_loopw [19] (fun t wr => ∃ (i : Nat) (o : List Nat), i ≤ a.length ∧ t = .int .i64 (i : Int) ∧ Row32 wr w.heap.size o ∧ Hid (TimesRel a b o i) ∧ Below w.heap.size w wr) (fun t _ => a.length - (intOf t).toNat)
  case atStart => exact ⟨0, _, Nat.zero_le _, rfl, Row32.made w _, TimesRel.start a b, (Below.refl _ w).alloc (Nat.le_refl _) _⟩
  case round =>
    obtain ⟨i, o, hi, rfl, hrow, hrel, hbl⟩ := hrel
    have r1 := hrel.out.1
    have r2 := hrel.out.2.1
    by_cases hlt : i < a.length
    · have hsz := hbl.size
      obtain ⟨_, _, _, hv, _, _, _, h6⟩ := HS.out
      obtain ⟨rfl, rfl⟩ : p = _ ∧ cap = _ := by simpa using hv
      obtain ⟨b1, o1, rfl, hb1, hc1⟩ := h6 (by omega)
      have hca : wr.cell? ⟨b1, o1 + i, none⟩ = some (.int .u32 ((lim a i : Nat) : Int)) := (hbl.cell (p := ⟨b1, o1 + i, none⟩) hb1).trans (hc1 i hlt)
      have HROW := Lib.hid hrow
      have hax := h0.getD i
      clear hc1 h6 hv hrow hmk r1 r2
      obtain ⟨wo, rfl⟩ : ∃ wo : World, wo = wr := ⟨_, rfl⟩
      go_wp2
      go_loopw [8, 26] (fun c t wi => ∃ (k x : Nat) (oi : List Nat), k ≤ b.length ∧ x < 4294967296 ∧ c = .int .u64 (x : Int) ∧ t = .int .i64 (k : Int) ∧ Row32 wi w.heap.size oi ∧ Hid (TimesIn a b oi i k x) ∧ Below w.heap.size w wi) (fun _ t _ => b.length - (intOf t).toNat)
      case atStart => exact ⟨0, 0, o, Nat.zero_le _, by omega, rfl, rfl, HROW.out, hrel.out.row, hbl⟩
      case round =>
        obtain ⟨k, x, oi, hk, hx, rfl, rfl, hrow, hrin, hbi⟩ := hrel
        have q1 := hrin.out.1
        have q2 := hrin.out.2.1
        have hsz2 := hbi.size
        by_cases hlk : k < b.length
        · obtain ⟨_, _, _, hv, _, _, _, k6⟩ := KS.out
          obtain ⟨rfl, rfl⟩ : q = _ ∧ cap' = _ := by simpa using hv
          obtain ⟨b2, o2, rfl, hb2, hc2⟩ := k6 (by omega)
          have hcb : wr.cell? ⟨b2, o2 + k, none⟩ = some (.int .u32 ((lim b k : Nat) : Int)) := (hbi.cell (p := ⟨b2, o2 + k, none⟩) hb2).trans (hc2 k hlk)
          have hrc := hrow.cell (i := i + k) (by omega)
          have hrf := hrow.frozen (i + k)
          have HR2 := Lib.hid hrow
          have hbx := k0.getD k
          have hox := q2.getD (i + k)
          have hp1 := prod_le hax hbx
          have hp2 : (0 : Int) ≤ (lim a i : Int) * (lim b k : Int) := by rw [← Int.natCast_mul]; omega
          have hp3 : (lim a i : Int) * (lim b k : Int) ≤ 18446744065119617025 := by rw [← Int.natCast_mul]; omega
          clear hc2 k6 hv hrow hp1 q1 q2
          go_wp2
          go_roundw
          case rel => exact ⟨k + 1, mulHi x (lim oi (i + k)) (lim a i) (lim b k), _, by omega, mulHi_lt hx hox hax hbx, by rw [cast_mulHi], by go_num, HR2.out.set' (i + k) _ (by rw [cast_mulLo]), hrin.out.step h0 k0 hlt hlk, hbi.setCell (Nat.le_refl _) _⟩
          case measure => simp [intOf]; omega
        · obtain rfl : k = b.length := by omega
          have hrc := hrow.cell (i := i + b.length) (by omega)
          have hrf := hrow.frozen (i + b.length)
          have HR2 := Lib.hid hrow
          clear hrow q1 q2
          go_wp2
          go_roundw
          case rel => exact ⟨i + 1, _, by omega, by go_num, HR2.out.set' (i + b.length) x (by omega), hrin.out.done hlt, hbi.setCell (Nat.le_refl _) _⟩
          case measure => simp [intOf]; omega
    · obtain rfl : i = a.length := by omega
      have hsz := hbl.size
      have hs2 := Sl.of_row (cap := a.length + b.length) hrow r2 (by omega) (by omega)
      rw [r1] at hs2
      have hd : val o = val a * val b := by have := hrel.out.2.2.1; rwa [List.take_length] at this
      have HS2 := Lib.hid hs2
      have D1 := Lib.hid hd
      clear hrow hmk r1 hs2 hd
      go_wp2_with fail
      refine (trim_c _ _ _ HS2.out).mono ?_
      rw [D1.out]
      rintro e w' ⟨⟨a', cap'', hv, rfl, hs'⟩, rfl⟩
      clear hv
      have HS' := Lib.hid hs'
      clear hs'
      go_wp2
      go_ret
      exact ⟨_, rfl, HS'.out, hbl⟩

set_option maxRecDepth 100000 in
set_option maxHeartbeats 1000000 in
/-- short: quotient and remainder by one limb. -/
theorem short_c (w : World) (va : Value) (a : List Nat) (d : Nat) (h : Sl w va a) (hd : 0 < d) (hd2 : d < 4294967296) (ha : a.length ≤ 1000000) :
    Calls Try.prog 77 #[va, .int .u32 (d : Int)] w (RetShort w (val a / d) (val a % d)) := by
  have hs := h
  obtain ⟨h0, p, cap, rfl, h2, h3, h5, h6⟩ := h
  have HS := Lib.hid hs
  clear hs h5 h6
  have hmk := run_make32 a.length (by omega)
  go_enter Try.func77, Try.ntmps77
  go_wp2
  go_loopw [7, 8] (fun r t wr => ∃ (i x : Nat) (o : List Nat), i ≤ a.length ∧ x < d ∧ r = .int .u32 (x : Int) ∧ t = .int .i64 ((i : Int) - 1) ∧ Row32 wr w.heap.size o ∧ Hid (ShortRel a o d i x) ∧ Below w.heap.size w wr) (fun _ t _ => (intOf t + 1).toNat)
  case atStart => exact ⟨a.length, 0, _, Nat.le_refl _, hd, rfl, rfl, Row32.made w _, ShortRel.start a hd, (Below.refl _ w).alloc (Nat.le_refl _) _⟩
  case round =>
    obtain ⟨i, x, o, hi, hx, rfl, rfl, hrow, hrel, hbl⟩ := hrel
    have r1 := hrel.out.1
    have r2 := hrel.out.2.1
    have hsz := hbl.size
    rcases Nat.eq_zero_or_pos i with hz | hp
    · subst hz
      have hs2 := Sl.of_row (cap := a.length) hrow r2 (by omega) (by omega)
      rw [r1] at hs2
      obtain ⟨d1, d2⟩ := hrel.out.done
      have HS2 := Lib.hid hs2
      have D1 := Lib.hid d1
      have D2 := Lib.hid d2
      clear hrow hmk r1 hs2 d1 d2
      go_wp2_with fail
      refine (trim_c _ _ _ HS2.out).mono ?_
      rw [D1.out]
      rintro e w' ⟨⟨a', cap'', hv, rfl, hs'⟩, rfl⟩
      clear hv
      have HS' := Lib.hid hs'
      clear hs'
      go_wp2
      go_ret2
      exact ⟨_, by rw [← D2.out]; rfl, HS'.out, hbl⟩
    · obtain ⟨m, rfl⟩ : ∃ m, i = m + 1 := ⟨i - 1, by omega⟩
      obtain ⟨_, _, _, hv, _, _, _, h6⟩ := HS.out
      obtain ⟨rfl, rfl⟩ : p = _ ∧ cap = _ := by simpa using hv
      obtain ⟨b1, o1, rfl, hb1, hc1⟩ := h6 (by omega)
      have hca : wr.cell? ⟨b1, o1 + m, none⟩ = some (.int .u32 ((lim a m : Nat) : Int)) := (hbl.cell (p := ⟨b1, o1 + m, none⟩) hb1).trans (hc1 m (by omega))
      have hrc := hrow.cell (i := m) (by omega)
      have hrf := hrow.frozen m
      have HROW := Lib.hid hrow
      have hax := h0.getD m
      have em : ((m + 1 : Nat) : Int) - 1 = (m : Int) := by omega
      rw [em]
      clear hc1 h6 hv hrow hmk em r1 r2
      go_wp2_with fail
      refine (div32_c _ _ _ hx hax hd2 _).mono ?_
      rintro e w' ⟨rfl, n, rfl⟩
      go_wp2
      go_roundw
      case rel => exact ⟨m, _, _, by omega, divR_lt hx, rfl, rfl, (HROW.out.drewN n).set m _, hrel.out.step h0 (by omega), (hbl.trans (below_drewN _ n _)).setCell (Nat.le_refl _) _⟩
      case measure => simp [intOf]
end Go.Proofs.Ytjjefdkadgkhfaa

namespace Go.Proofs.Ytjjefdkadgkhfaa
open Go.RowKit

/-- After i rounds of Diff. -/
def DiffRel (a b o : List Nat) (i c : Nat) : Prop := o.length = i ∧ Lb o ∧ c ≤ 1 ∧ val o + val (b.take i) = val (a.take i) + c * 4294967296 ^ i
theorem DiffRel.start (a b : List Nat) : DiffRel a b [] 0 0 := ⟨rfl, Lb.nil, by omega, by simp [val]⟩
theorem DiffRel.step {a b o : List Nat} {i c : Nat} (h : DiffRel a b o i c) (ha : Lb a) (hb : Lb b) : DiffRel a b (o ++ [subLo (lim a i) (lim b i) c]) (i + 1) (subHi (lim a i) (lim b i) c) := by
  obtain ⟨h1, h2, h3, h4⟩ := h
  have e0 := sub_eq (ha.getD i) (hb.getD i) h3
  have e2 := val_take_step a i
  have e3 := val_take_step b i
  refine ⟨by simp [h1], h2.append (Lb.cons (subLo_lt _ _ _) Lb.nil), subHi_le _ _ _, ?_⟩
  rw [val_append, h1, e2, e3, Nat.pow_succ]
  simp only [val]
  generalize subLo (lim a i) (lim b i) c = lo at *
  generalize subHi (lim a i) (lim b i) c = hi at *
  grind
theorem DiffRel.done {a b o : List Nat} {c : Nat} (h : DiffRel a b o a.length c) (hl : b.length ≤ a.length) (hle : val b ≤ val a) : val o = val a - val b ∧ Lb o := by
  obtain ⟨h1, h2, h3, h4⟩ := h
  rw [List.take_length, val_take_ge hl] at h4
  have := val_lt h2
  rw [h1] at this
  rcases Nat.eq_zero_or_pos c with h0 | h0
  · subst h0; exact ⟨by omega, h2⟩
  · have : c = 1 := by omega
    subst this; exact ⟨by omega, h2⟩

set_option maxRecDepth 100000 in
set_option maxHeartbeats 4000000 in
theorem Diff_c (w : World) (va vb : Value) (a b : List Nat) (h : Sl w va a) (k : Sl w vb b) (hl : b.length ≤ a.length) (hle : val b ≤ val a) (ha : a.length ≤ 1000000) :
    Calls Try.prog 93 #[va, vb] w (RetNat w (val a - val b)) := by
  have hs := h
  have ks := k
  obtain ⟨h0, p, cap, rfl, h2, h3, h5, h6⟩ := h
  obtain ⟨k0, q, cap', rfl, k2, k3, k5, k6⟩ := k
  have HS := Lib.hid hs
  have KS := Lib.hid ks
  obtain ⟨i0, hi, hz0, hz1, hz2⟩ := info_parts info32
  have hlm : Hid (maxLen = 9223372036854775807) := rfl
  clear hs ks h5 h6 k5 k6
  go_enter Try.func93, Try.ntmps93
  go_wp2
  go_loopg [5, 6, 7] a.length (fun g o c t wx => ∃ (i x : Nat) (l : List Nat), i ≤ a.length ∧ g = a.length - i ∧ x ≤ 1 ∧ c = .int .u64 (x : Int) ∧ t = .int .i64 (i : Int) ∧ wx.ownsRow w.heap.size 104 1 o i (l.map u32) ∧ Hid (DiffRel a b l i x) ∧ Below w.heap.size w wx)
  case atStart => exact ⟨0, 0, [], Nat.zero_le _, rfl, by omega, rfl, rfl, World.ownsRow_nil _ _ _ _, DiffRel.start a b, Below.refl _ w⟩
  case round =>
    obtain ⟨i, x, l, hile, rfl, hx, rfl, rfl, hown, hrel, hbl⟩ := hrel
    have hsz := hbl.size
    by_cases hlt : i < a.length
    · have hax := h0.getD i
      have hbx := k0.getD i
      have hnext := hrel.out.step h0 k0
      have HN := Lib.hid hnext
      have hhi := subHi_le (lim a i) (lim b i) x
      have hlo := subLo_lt (lim a i) (lim b i) x
      have HOWN := Lib.hid hown
      clear hown hnext
      obtain ⟨_, _, _, hv, _, _, _, h6⟩ := HS.out
      obtain ⟨rfl, rfl⟩ : p = _ ∧ cap = _ := by simpa using hv
      obtain ⟨b1, o1, rfl, hb1, hc1⟩ := h6 (by omega)
      have hca : wr.cell? ⟨b1, o1 + i, none⟩ = some (.int .u32 ((lim a i : Nat) : Int)) := (hbl.cell (p := ⟨b1, o1 + i, none⟩) hb1).trans (hc1 i hlt)
      clear hc1 h6 hv
      by_cases hlb : i < b.length
      · obtain ⟨_, _, _, hv, _, _, _, k6⟩ := KS.out
        obtain ⟨rfl, rfl⟩ : q = _ ∧ cap' = _ := by simpa using hv
        obtain ⟨b2, o2, rfl, hb2, hc2⟩ := k6 (by omega)
        have hcb : wr.cell? ⟨b2, o2 + i, none⟩ = some (.int .u32 ((lim b i : Nat) : Int)) := (hbl.cell (p := ⟨b2, o2 + i, none⟩) hb2).trans (hc2 i hlb)
        clear hc2 k6 hv
        rcases Nat.lt_or_ge (lim a i) (x + lim b i) with hxy | hxy
        · have hzl : ((lim a i : Nat) : Int) + 4294967296 - ((x : Int) + (lim b i : Nat)) = ((subLo (lim a i) (lim b i) x : Nat) : Int) := by unfold subLo; omega
          have hzh : ((subHi (lim a i) (lim b i) x : Nat) : Int) = 1 := by unfold subHi; rw [if_pos (by omega)]; rfl
          have HZH := Lib.hid hzh
          clear hzh
          go_wp2_with (at_builtin; refine wpList_append_own _ rfl _ _ 28 rfl w.heap.size 104 i0 (.int .u32 0) 1 4 Try.underlying28 hi hz0 hz1 hz2 rfl (by decide) _ _ _ rfl (HOWN.out.alloc _) ⟨wr.heap.size, 0, none⟩ 1 1 [.int .u32 ((subLo (lim a i) (lim b i) x : Nat) : Int)] rfl rfl ?c1 ?c2 ?c3 ?c4 ?c5 ?_)
          case c1 => exact cell_one_new _ _ _
          case c2 => simp [Value.oneCell']
          case c3 => rw [hlm.out]; omega
          case c4 => omega
          case c5 => simp; omega
          intro v' w1 hown' hgrow _
          have hown2 := own_cast hown' rfl
          have hb1 := (hbl.alloc hsz (.cells #[.int .u32 ((subLo (lim a i) (lim b i) x : Nat) : Int)] 104)).grown hgrow (by simp; omega) (fun k hk => (HOWN.out.lt k hk).1)
          have HOWN2 := Lib.hid hown2
          have HB1 := Lib.hid hb1
          clear hown' hown2 hb1 hgrow
          go_wp2
          go_roundg (a.length - (i + 1))
          case measure => omega
          case rel => exact ⟨i + 1, _, _, by omega, rfl, hhi, by rw [HZH.out], by go_num, HOWN2.out, HN.out, HB1.out⟩
        · have hzl : ((lim a i : Nat) : Int) - ((x : Int) + (lim b i : Nat)) = ((subLo (lim a i) (lim b i) x : Nat) : Int) := by unfold subLo; omega
          have hzh : ((subHi (lim a i) (lim b i) x : Nat) : Int) = 0 := by unfold subHi; rw [if_neg (by omega)]; rfl
          have HZH := Lib.hid hzh
          clear hzh
          go_wp2_with (at_builtin; refine wpList_append_own _ rfl _ _ 28 rfl w.heap.size 104 i0 (.int .u32 0) 1 4 Try.underlying28 hi hz0 hz1 hz2 rfl (by decide) _ _ _ rfl (HOWN.out.alloc _) ⟨wr.heap.size, 0, none⟩ 1 1 [.int .u32 ((subLo (lim a i) (lim b i) x : Nat) : Int)] rfl rfl ?c1 ?c2 ?c3 ?c4 ?c5 ?_)
          case c1 => exact cell_one_new _ _ _
          case c2 => simp [Value.oneCell']
          case c3 => rw [hlm.out]; omega
          case c4 => omega
          case c5 => simp; omega
          intro v' w1 hown' hgrow _
          have hown2 := own_cast hown' rfl
          have hb1 := (hbl.alloc hsz (.cells #[.int .u32 ((subLo (lim a i) (lim b i) x : Nat) : Int)] 104)).grown hgrow (by simp; omega) (fun k hk => (HOWN.out.lt k hk).1)
          have HOWN2 := Lib.hid hown2
          have HB1 := Lib.hid hb1
          clear hown' hown2 hb1 hgrow
          go_wp2
          go_roundg (a.length - (i + 1))
          case measure => omega
          case rel => exact ⟨i + 1, _, _, by omega, rfl, hhi, by rw [HZH.out], by go_num, HOWN2.out, HN.out, HB1.out⟩
      · have hzb : lim b i = 0 := getD_ge (by omega)
        have HZB := Lib.hid hzb
        clear hzb
        rcases Nat.lt_or_ge (lim a i) (x) with hxy | hxy
        · have hzl : ((lim a i : Nat) : Int) + 4294967296 - ((x : Int)) = ((subLo (lim a i) (lim b i) x : Nat) : Int) := by have := HZB.out; unfold subLo; omega
          have hzh : ((subHi (lim a i) (lim b i) x : Nat) : Int) = 1 := by have := HZB.out; unfold subHi; rw [if_pos (by omega)]; rfl
          have HZH := Lib.hid hzh
          clear hzh
          go_wp2_with (at_builtin; refine wpList_append_own _ rfl _ _ 28 rfl w.heap.size 104 i0 (.int .u32 0) 1 4 Try.underlying28 hi hz0 hz1 hz2 rfl (by decide) _ _ _ rfl (HOWN.out.alloc _) ⟨wr.heap.size, 0, none⟩ 1 1 [.int .u32 ((subLo (lim a i) (lim b i) x : Nat) : Int)] rfl rfl ?c1 ?c2 ?c3 ?c4 ?c5 ?_)
          case c1 => exact cell_one_new _ _ _
          case c2 => simp [Value.oneCell']
          case c3 => rw [hlm.out]; omega
          case c4 => omega
          case c5 => simp; omega
          intro v' w1 hown' hgrow _
          have hown2 := own_cast hown' rfl
          have hb1 := (hbl.alloc hsz (.cells #[.int .u32 ((subLo (lim a i) (lim b i) x : Nat) : Int)] 104)).grown hgrow (by simp; omega) (fun k hk => (HOWN.out.lt k hk).1)
          have HOWN2 := Lib.hid hown2
          have HB1 := Lib.hid hb1
          clear hown' hown2 hb1 hgrow
          go_wp2
          go_roundg (a.length - (i + 1))
          case measure => omega
          case rel => exact ⟨i + 1, _, _, by omega, rfl, hhi, by rw [HZH.out], by go_num, HOWN2.out, HN.out, HB1.out⟩
        · have hzl : ((lim a i : Nat) : Int) - ((x : Int)) = ((subLo (lim a i) (lim b i) x : Nat) : Int) := by have := HZB.out; unfold subLo; omega
          have hzh : ((subHi (lim a i) (lim b i) x : Nat) : Int) = 0 := by have := HZB.out; unfold subHi; rw [if_neg (by omega)]; rfl
          have HZH := Lib.hid hzh
          clear hzh
          go_wp2_with (at_builtin; refine wpList_append_own _ rfl _ _ 28 rfl w.heap.size 104 i0 (.int .u32 0) 1 4 Try.underlying28 hi hz0 hz1 hz2 rfl (by decide) _ _ _ rfl (HOWN.out.alloc _) ⟨wr.heap.size, 0, none⟩ 1 1 [.int .u32 ((subLo (lim a i) (lim b i) x : Nat) : Int)] rfl rfl ?c1 ?c2 ?c3 ?c4 ?c5 ?_)
          case c1 => exact cell_one_new _ _ _
          case c2 => simp [Value.oneCell']
          case c3 => rw [hlm.out]; omega
          case c4 => omega
          case c5 => simp; omega
          intro v' w1 hown' hgrow _
          have hown2 := own_cast hown' rfl
          have hb1 := (hbl.alloc hsz (.cells #[.int .u32 ((subLo (lim a i) (lim b i) x : Nat) : Int)] 104)).grown hgrow (by simp; omega) (fun k hk => (HOWN.out.lt k hk).1)
          have HOWN2 := Lib.hid hown2
          have HB1 := Lib.hid hb1
          clear hown' hown2 hb1 hgrow
          go_wp2
          go_roundg (a.length - (i + 1))
          case measure => omega
          case rel => exact ⟨i + 1, _, _, by omega, rfl, hhi, by rw [HZH.out], by go_num, HOWN2.out, HN.out, HB1.out⟩
    · obtain rfl : i = a.length := by omega
      have hd := hrel.out.done hl hle
      have HD1 := Lib.hid hd.1
      have hlb := hd.2
      have hs2 := Sl.of_own hown hlb
      have HS2 := Lib.hid hs2
      have HB1 := Lib.hid hbl
      clear hd hown hs2 hbl
      go_wp2_with fail
      refine (rtrim_c _ _ _ HS2.out).mono ?_
      rw [HD1.out]
      rintro e w' ⟨⟨a', cap'', hv, rfl, hs'⟩, rfl⟩
      clear hv
      have HS' := Lib.hid hs'
      clear hs'
      go_wp2_with fail
      go_ret
      exact ⟨_, rfl, HS'.out, HB1.out⟩

end Go.Proofs.Ytjjefdkadgkhfaa

namespace Go.Proofs.Ytjjefdkadgkhfaa

/-- The number of binary digits. -/
def bl (n : Nat) : Nat := if n = 0 then 0 else bl (n / 2) + 1
termination_by n
decreasing_by omega
theorem bl_zero : bl 0 = 0 := by rw [bl]; simp
theorem bl_pos {n : Nat} (h : 0 < n) : bl n = bl (n / 2) + 1 := by rw [bl, if_neg (by omega)]
theorem lt_bl (n : Nat) : n < 2 ^ bl n := by
  induction n using Nat.strongRecOn with
  | _ n ih =>
    rcases Nat.eq_zero_or_pos n with h | h
    · subst h; rw [bl_zero]; simp
    · have := ih (n / 2) (by omega)
      rw [bl_pos h, Nat.pow_succ]; omega
theorem bl_le {n : Nat} (h : 0 < n) : 2 ^ bl n ≤ 2 * n := by
  induction n using Nat.strongRecOn with
  | _ n ih =>
    rw [bl_pos h, Nat.pow_succ]
    rcases Nat.eq_zero_or_pos (n / 2) with h2 | h2
    · rw [h2, bl_zero]; omega
    · have := ih (n / 2) (by omega) h2
      omega
theorem bl_le_of_lt {n k : Nat} (h : n < 2 ^ k) : bl n ≤ k := by
  rcases Nat.eq_zero_or_pos n with h0 | h0
  · subst h0; rw [bl_zero]; omega
  · have h1 := bl_le h0
    rcases Nat.lt_or_ge k (bl n) with hlt | hge
    · have := Nat.pow_le_pow_right (n := 2) (by omega) (show k + 1 ≤ bl n by omega)
      rw [Nat.pow_succ] at this; omega
    · exact hge
theorem bl_small {n : Nat} (h : n < 4294967296) : bl n ≤ 32 := bl_le_of_lt (by simpa using h)
theorem bl_uniq {n k : Nat} (h1 : n < 2 ^ k) (h2 : 2 ^ k ≤ 2 * n) : bl n = k := by
  have a := bl_le_of_lt h1
  rcases Nat.lt_or_ge (bl n) k with hlt | hge
  · have h3 := lt_bl n
    have := Nat.pow_le_pow_right (n := 2) (by omega) (show bl n + 1 ≤ k by omega)
    rw [Nat.pow_succ] at this; omega
  · omega
theorem two_pow (k : Nat) : (4294967296 : Nat) ^ k = 2 ^ (32 * k) := by rw [show (4294967296 : Nat) = 2 ^ 32 by decide, Nat.pow_mul]
/-- The binary digits of a number, by its last limb. -/
theorem bl_limbs {n : Nat} (h : 0 < n) : bl n = 32 * ((limbs n).length - 1) + bl (lim (limbs n) ((limbs n).length - 1)) := by
  have hp := limbs_len_pos h
  have hv := val_take_succ (l := limbs n) (k := (limbs n).length - 1) (by omega)
  rw [show (limbs n).length - 1 + 1 = (limbs n).length by omega, List.take_length, val_limbs] at hv
  have hlt := val_lt ((limbs_lb n).take ((limbs n).length - 1))
  rw [List.length_take, show min ((limbs n).length - 1) (limbs n).length = (limbs n).length - 1 by omega] at hlt
  have hne := limbs_last h
  generalize lim (limbs n) ((limbs n).length - 1) = top at *
  generalize val ((limbs n).take ((limbs n).length - 1)) = low at *
  rw [two_pow] at hlt hv
  generalize 32 * ((limbs n).length - 1) = m at *
  have h1 := lt_bl top
  have h2 := bl_le (n := top) (by omega)
  apply bl_uniq
  · rw [Nat.pow_add]
    have : (top + 1) * 2 ^ m ≤ 2 ^ bl top * 2 ^ m := Nat.mul_le_mul_right _ h1
    rw [Nat.add_mul] at this
    rw [Nat.mul_comm (2 ^ m)]
    omega
  · rw [Nat.pow_add]
    have : 2 ^ bl top * 2 ^ m ≤ 2 * top * 2 ^ m := Nat.mul_le_mul_right _ h2
    rw [Nat.mul_assoc] at this
    rw [Nat.mul_comm (2 ^ m)]
    omega
theorem bl_len (n : Nat) : bl n ≤ 32 * (limbs n).length := by
  have := lt_limbs n
  rw [two_pow] at this
  exact bl_le_of_lt this

/-- A limb of a half. -/
def halfL (a : List Nat) (i : Nat) : Nat := lim a i / 2 + lim a (i + 1) % 2 * 2147483648
theorem halfL_lt {a : List Nat} (h : Lb a) (i : Nat) : halfL a i < 4294967296 := by
  have := h.getD i
  unfold halfL; omega
theorem half_or {x y : Nat} (hx : x < 4294967296) : (x / 2) ||| (y * 2147483648 % 4294967296) = x / 2 + y % 2 * 2147483648 := by
  have e : y * 2147483648 % 4294967296 = 2 ^ 31 * (y % 2) := by omega
  rw [e, Nat.or_comm, ← Nat.two_pow_add_eq_or_of_lt (by omega)]
  omega
/-- After i rounds of half. -/
def HalfRel (a o : List Nat) (i : Nat) : Prop := o.length = a.length ∧ Lb o ∧ val (o.take i) = val (a.take i) / 2 + (if i = 0 then 0 else lim a i % 2 * 2147483648 * 4294967296 ^ (i - 1)) ∧ True
theorem HalfRel.start (a : List Nat) : HalfRel a (List.replicate a.length 0) 0 := ⟨by simp, Lb.replicate _ (by omega), by simp [val], trivial⟩
theorem HalfRel.step {a o : List Nat} {i : Nat} (h : HalfRel a o i) (ha : Lb a) (hi : i < a.length) : HalfRel a (o.set i (halfL a i)) (i + 1) := by
  obtain ⟨h1, h2, h3, _⟩ := h
  refine ⟨by simp [h1], h2.set _ (halfL_lt ha i), ?_, trivial⟩
  rw [val_take_step (o.set i _), lim_set_eq (by omega), val_take_step a]
  have e : (o.set i (halfL a i)).take i = o.take i := by
    apply List.ext_getElem?
    intro k
    rw [List.getElem?_take, List.getElem?_take]
    split
    · rw [List.getElem?_set_ne (by omega)]
    · rfl
  rw [e, h3]
  unfold halfL
  cases i with
  | zero =>
    simp only [Nat.pow_zero, Nat.mul_one, Nat.zero_add, List.take_zero, val]
    simp
  | succ k =>
    rw [if_neg (by omega), if_neg (by omega)]
    simp only [Nat.add_sub_cancel, Nat.pow_succ]
    generalize lim a (k + 1) = x
    generalize lim a (k + 1 + 1) = y
    generalize val (List.take (k + 1) a) = v
    generalize 4294967296 ^ k = p
    have hx : x = 2 * (x / 2) + x % 2 := by omega
    have e1 : (v + x * (p * 4294967296)) / 2 = v / 2 + x / 2 * (p * 4294967296) + x % 2 * (p * 2147483648) := by
      have : v + x * (p * 4294967296) = v + 2 * (x / 2 * (p * 4294967296) + x % 2 * (p * 2147483648)) := by
        generalize x / 2 = xq at *
        generalize x % 2 = xr at *
        subst hx
        grind
      rw [this, Nat.add_mul_div_left _ _ (by omega)]; omega
    rw [e1]
    generalize y % 2 = yr
    generalize x / 2 = xq
    generalize x % 2 = xr
    grind
theorem HalfRel.done {a o : List Nat} (h : HalfRel a o a.length) : val o = val a / 2 := by
  obtain ⟨h1, h2, h3, _⟩ := h
  rw [List.take_length, ← h1, List.take_length, h1] at h3
  rw [h3]
  split
  · rfl
  · rw [getD_ge (Nat.le_refl _)]; simp

/-- The state of a division, z rounds before its end less 1. -/
def QRel (A B : Nat) (z : Int) (q a b : Nat) : Prop :=
  (z < 0 → A = q * B + a ∧ a < B) ∧ (0 ≤ z → b = B * 2 ^ z.toNat ∧ A = q * (B * 2 ^ (z.toNat + 1)) + a ∧ a < B * 2 ^ (z.toNat + 1))
theorem QRel.start {A B b : Nat} {i : Nat} {s : Int} (hB : 0 < B) (hs : s = (bl A : Int) - bl B) (hi : s ≤ i) (hi' : i = 0 ∨ (i : Int) ≤ s) (hb : b = B * 2 ^ i) : QRel A B s 0 A b := by
  have h1 := lt_bl A
  have h2 := bl_le hB
  constructor
  · intro hz
    refine ⟨by omega, ?_⟩
    have := Nat.pow_le_pow_right (n := 2) (by omega) (show bl A + 1 ≤ bl B by omega)
    rw [Nat.pow_succ] at this; omega
  · intro hz
    have e : s.toNat = i := by omega
    rw [e]
    refine ⟨hb, by omega, ?_⟩
    have e2 : bl A = bl B + i := by omega
    rw [e2, Nat.pow_add] at h1
    have : 2 ^ bl B * 2 ^ i ≤ 2 * B * 2 ^ i := Nat.mul_le_mul_right _ h2
    rw [Nat.pow_succ]
    have e3 : B * (2 ^ i * 2) = 2 * B * 2 ^ i := by grind
    omega
theorem QRel.size {A B : Nat} {z : Int} {q a b : Nat} (h : QRel A B z q a b) (hB : 0 < B) : q ≤ A ∧ a ≤ A := by
  rcases Int.lt_or_le z 0 with hz | hz
  · obtain ⟨h1, _⟩ := h.1 hz
    have := Nat.le_mul_of_pos_right q hB
    omega
  · obtain ⟨_, h1, _⟩ := h.2 hz
    have := Nat.le_mul_of_pos_right q (Nat.mul_pos hB (Nat.pow_pos (n := z.toNat + 1) (show 0 < 2 by omega)))
    omega
theorem QRel.yes {A B : Nat} {z : Int} {q a b : Nat} (h : QRel A B z q a b) (hz : 0 ≤ z) (hle : b ≤ a) : QRel A B (z - 1) (2 * q + 1) (a - b) (b / 2) := by
  obtain ⟨h1, h2, h3⟩ := h.2 hz
  rw [Nat.pow_succ] at h2 h3
  constructor
  · intro hz1
    have e : z.toNat = 0 := by omega
    rw [e] at h1 h2 h3
    simp only [Nat.pow_zero, Nat.mul_one, Nat.one_mul] at h1 h2 h3
    subst h1
    constructor
    · have : q * (b * 2) = 2 * (q * b) := by grind
      have e : (2 * q + 1) * b = 2 * (q * b) + b := by grind
      omega
    · omega
  · intro hz1
    obtain ⟨k, hk⟩ : ∃ k : Nat, z = k + 1 := ⟨(z - 1).toNat, by omega⟩
    have e1 : z.toNat = k + 1 := by omega
    have e2 : (z - 1).toNat = k := by omega
    rw [e1] at h1 h2 h3
    rw [e2]
    rw [Nat.pow_succ] at h1 h2 h3 ⊢
    generalize 2 ^ k = p at *
    have hb2 : b / 2 = B * p := by
      have e : B * (p * 2) = 2 * (B * p) := by grind
      omega
    refine ⟨hb2, ?_, ?_⟩
    · have e : (2 * q + 1) * (B * (p * 2)) = q * (B * (p * 2 * 2)) + B * (p * 2) := by grind
      omega
    · have e : B * (p * 2 * 2) = 2 * (B * (p * 2)) := by grind
      omega
theorem QRel.no {A B : Nat} {z : Int} {q a b : Nat} (h : QRel A B z q a b) (hz : 0 ≤ z) (hlt : a < b) : QRel A B (z - 1) (2 * q) a (b / 2) := by
  obtain ⟨h1, h2, h3⟩ := h.2 hz
  rw [Nat.pow_succ] at h2 h3
  constructor
  · intro hz1
    have e : z.toNat = 0 := by omega
    rw [e] at h1 h2 h3
    simp only [Nat.pow_zero, Nat.mul_one, Nat.one_mul] at h1 h2 h3
    subst h1
    exact ⟨by rw [h2]; grind, by omega⟩
  · intro hz1
    obtain ⟨k, hk⟩ : ∃ k : Nat, z = k + 1 := ⟨(z - 1).toNat, by omega⟩
    have e1 : z.toNat = k + 1 := by omega
    have e2 : (z - 1).toNat = k := by omega
    rw [e1] at h1 h2 h3
    rw [e2]
    rw [Nat.pow_succ] at h1 h2 h3 ⊢
    generalize 2 ^ k = p at *
    have hb2 : b / 2 = B * p := by
      have e : B * (p * 2) = 2 * (B * p) := by grind
      omega
    refine ⟨hb2, ?_, by omega⟩
    have e : (2 * q) * (B * (p * 2)) = q * (B * (p * 2 * 2)) := by grind
    omega
theorem QRel.done {A B : Nat} {z : Int} {q a b : Nat} (h : QRel A B z q a b) (hz : z < 0) : q = A / B ∧ a = A % B := by
  obtain ⟨h1, h2⟩ := h.1 hz
  have hB : 0 < B := by omega
  subst h1
  rw [Nat.mul_comm q B, Nat.mul_add_div hB, Nat.mul_add_mod, Nat.div_eq_of_lt h2, Nat.mod_eq_of_lt h2]
  exact ⟨by omega, rfl⟩
end Go.Proofs.Ytjjefdkadgkhfaa

namespace Go.Proofs.Ytjjefdkadgkhfaa

/-- A fraction as it lies in memory: its sign, its numerator's limbs, its denominator's. -/
structure F where
  neg : Bool
  num : List Nat
  den : List Nat
/-- A fraction of two numbers. -/
def fr (neg : Bool) (n d : Nat) : F := ⟨neg, limbs n, limbs d⟩
/-- What is returned with an error. -/
def F0 : F := ⟨false, [], []⟩
theorem fr_zero : fr false 0 0 = F0 := by simp [fr, F0, limbs_zero]

/-- A sign, a numerator and a denominator of a valid fraction. -/
structure Ok (neg : Bool) (n d : Nat) : Prop where
  n32 : (limbs n).length ≤ 32
  d32 : (limbs d).length ≤ 32
  pos : 0 < d
  gcd : Nat.gcd n d = 1
  sign : n = 0 → neg = false
/-- Valid, as the chapter says it. -/
def ValidF (x : F) : Prop := Canon x.num ∧ Canon x.den ∧ Ok x.neg (val x.num) (val x.den)
theorem ValidF.eq {x : F} (h : ValidF x) : x = fr x.neg (val x.num) (val x.den) := by
  obtain ⟨neg, a, b⟩ := x
  obtain ⟨h1, h2, _⟩ := h
  unfold Canon at h1 h2
  simp only at h1 h2
  unfold fr
  simp only
  rw [← h1, ← h2]
theorem validF_fr {neg : Bool} {n d : Nat} : ValidF (fr neg n d) ↔ Ok neg n d := by
  unfold ValidF fr
  simp only [val_limbs]
  exact ⟨fun h => h.2.2, fun h => ⟨canon_limbs _, canon_limbs _, h⟩⟩
theorem Ok.lt {neg : Bool} {n d : Nat} (h : Ok neg n d) : n < 4294967296 ^ 32 ∧ d < 4294967296 ^ 32 :=
  ⟨Nat.lt_of_lt_of_le (lt_limbs n) (Nat.pow_le_pow_right (by omega) h.n32), Nat.lt_of_lt_of_le (lt_limbs d) (Nat.pow_le_pow_right (by omega) h.d32)⟩

/-- The fraction of a numerator and a denominator that is not 0, in lowest terms, and its error. -/
noncomputable def made (neg : Bool) (n d : Nat) : F × Int :=
  open Classical in
  if 32 < (limbs (n / Nat.gcd n d)).length ∨ 32 < (limbs (d / Nat.gcd n d)).length then (F0, 3)
  else (fr (neg && decide (0 < n / Nat.gcd n d)) (n / Nat.gcd n d) (d / Nat.gcd n d), 0)

theorem limbs_mul_len (a b : Nat) : (limbs (a * b)).length ≤ (limbs a).length + (limbs b).length := by
  apply limbs_len_lt
  rw [Nat.pow_add]
  exact Nat.mul_lt_mul'' (lt_limbs a) (lt_limbs b)
theorem limbs_add_len (a b : Nat) : (limbs (a + b)).length ≤ max (limbs a).length (limbs b).length + 1 := by
  apply limbs_len_lt
  rw [Nat.pow_succ]
  have h1 := Nat.lt_of_lt_of_le (lt_limbs a) (Nat.pow_le_pow_right (n := 4294967296) (by omega) (Nat.le_max_left (limbs a).length (limbs b).length))
  have h2 := Nat.lt_of_lt_of_le (lt_limbs b) (Nat.pow_le_pow_right (n := 4294967296) (by omega) (Nat.le_max_right (limbs a).length (limbs b).length))
  omega
end Go.Proofs.Ytjjefdkadgkhfaa

namespace Go.Proofs
open Go.Shelf
def Try.lays128_ren : Go.Shelf.Ren := ⟨fun | 128 => 90 | n => n, fun | 51 => 104 | 3 => 3 | 4 => 4 | 46 => 105 | 5 => 5 | 9 => 9 | n => n, fun | n => n⟩
theorem Try.lays128 : Go.Proofs.Lays.n128 Try.prog Try.lays128_ren := {
  mixed := by kernel_rfl
  f128 := Try.func90.trans (congrArg some (by kernel_rfl))
  t3 := Try.underlying3
  a3 := Try.isAgg3
  z3 := Try.sizeOf3
  v3 := Try.zeroValue3
  t4 := Try.underlying4
  a4 := Try.isAgg4
  z4 := Try.sizeOf4
  v4 := Try.zeroValue4
  t5 := Try.underlying5
  a5 := Try.isAgg5
  z5 := Try.sizeOf5
  v5 := Try.zeroValue5
  t9 := Try.underlying9
  a9 := Try.isAgg9
  z9 := Try.sizeOf9
  v9 := Try.zeroValue9
  t46 := Try.underlying105
  a46 := Try.isAgg105
  z46 := Try.sizeOf105
  v46 := Try.zeroValue105
  t51 := Try.underlying104
  a51 := Try.isAgg104
  z51 := Try.sizeOf104
  v51 := Try.zeroValue104 }
/-- bits.Len32: "Len32 returns the minimum number of bits required to represent x; the result is 0 for x == 0.": IT RETURNS 'Lib.bitLen x'; the world is as it was. ('h0', 'h1': x is a uint32.) (LAID: no walk: one application.) -/
theorem Try.bits_Len32 (x : Int) (w : World) (h0 : 0 ≤ x) (h1 : x ≤ 4294967295) :
    Calls Try.prog 90 #[.int .u32 x] w fun e w' => e = .returned (.int .i64 (Lib.bitLen x.toNat)) ∧ w' = w := Any.bits_Len32 Try.lays128 x w h0 h1
def Try.lays133_ren : Go.Shelf.Ren := ⟨fun | 133 => 78 | 128 => 90 | n => n, fun | 51 => 104 | 3 => 3 | 4 => 4 | 46 => 105 | 5 => 5 | 9 => 9 | n => n, fun | n => n⟩
theorem Try.lays133 : Go.Proofs.Lays.n133 Try.prog Try.lays133_ren := {
  mixed := by kernel_rfl
  f128 := Try.func90.trans (congrArg some (by kernel_rfl))
  f133 := Try.func78.trans (congrArg some (by kernel_rfl))
  t3 := Try.underlying3
  a3 := Try.isAgg3
  z3 := Try.sizeOf3
  v3 := Try.zeroValue3
  t4 := Try.underlying4
  a4 := Try.isAgg4
  z4 := Try.sizeOf4
  v4 := Try.zeroValue4
  t5 := Try.underlying5
  a5 := Try.isAgg5
  z5 := Try.sizeOf5
  v5 := Try.zeroValue5
  t9 := Try.underlying9
  a9 := Try.isAgg9
  z9 := Try.sizeOf9
  v9 := Try.zeroValue9
  t46 := Try.underlying105
  a46 := Try.isAgg105
  z46 := Try.sizeOf105
  v46 := Try.zeroValue105
  t51 := Try.underlying104
  a51 := Try.isAgg104
  z51 := Try.sizeOf104
  v51 := Try.zeroValue104 }
/-- bits.LeadingZeros32: "LeadingZeros32 returns the number of leading zero bits in x; the result is 32 for x == 0.": IT RETURNS '32 - Lib.bitLen x'; the world is as it was. ITS CALLEE bits.Len32 IS MET BY ITS OWN CONTRACT OFF THE SHELF (lay that first): entered in place it sends the kernel out of memory. (LAID: no walk: one application.) -/
theorem Try.bits_LeadingZeros32 (x : Int) (w : World) (h0 : 0 ≤ x) (h1 : x ≤ 4294967295) :
    Calls Try.prog 78 #[.int .u32 x] w fun e w' => e = .returned (.int .i64 (32 - (Lib.bitLen x.toNat : Int))) ∧ w' = w := Any.bits_LeadingZeros32 Try.lays133 x w h0 h1
def Try.lays111_ren : Go.Shelf.Ren := ⟨fun | 111 => 26 | n => n, fun | 28 => 26 | 3 => 3 | 4 => 4 | 0 => 0 | n => n, fun | n => n⟩
theorem Try.lays111 : Go.Proofs.Lays.n111 Try.prog Try.lays111_ren := {
  mixed := by kernel_rfl
  f111 := Try.func26.trans (congrArg some (by kernel_rfl))
  t0 := Try.underlying0
  a0 := Try.isAgg0
  z0 := Try.sizeOf0
  v0 := Try.zeroValue0
  t3 := Try.underlying3
  a3 := Try.isAgg3
  z3 := Try.sizeOf3
  v3 := Try.zeroValue3
  t4 := Try.underlying4
  a4 := Try.isAgg4
  z4 := Try.sizeOf4
  v4 := Try.zeroValue4
  t28 := Try.underlying26
  a28 := Try.isAgg26
  z28 := Try.sizeOf26
  v28 := Try.zeroValue26 }
open Go.RowKit Go.Lib in
/-- slices.Equal at []int: "Equal reports whether two slices are equal: the same length and all elements equal. If the lengths are different, Equal returns false. Otherwise, the elements are compared in increasing index order, and the comparison stops at the first unequal pair. Empty and nil slices are considered equal.": IT RETURNS WHETHER THE TWO LISTS OF ELEMENTS ARE ONE; the world is as it was but for the count of draws (the test 's1[i] != s2[i]' has two reads, whose order the model draws, once a round). 'xs', 'ys': what the cells behind the two addresses hold (the spare capacity too, if you have it); 'xs.take n', 'ys.take m': the elements. THE TWO SLICES MAY OVERLAP. (LAID: no walk: one application.) -/
theorem Try.slices_Equal_int (b1 o1 n c b2 o2 m d : Nat) (xs ys : List Int) (w : World) (hx : n ≤ xs.length) (hy : m ≤ ys.length) (hbig : n ≤ 9223372036854775807) (hbig2 : m ≤ 9223372036854775807) (hc1 : ∀ j, j < xs.length → w.cell? ⟨b1, o1 + j, none⟩ = some (.int .i64 (xs.getD j 0))) (hc2 : ∀ j, j < ys.length → w.cell? ⟨b2, o2 + j, none⟩ = some (.int .i64 (ys.getD j 0))) :
    Calls Try.prog 26 #[.slice (some ⟨b1, o1, none⟩) n c, .slice (some ⟨b2, o2, none⟩) m d] w fun e w' => e = .returned (.bool (xs.take n == ys.take m)) ∧ ∃ q, w' = w.drewN q := Any.slices_Equal_int Try.lays111 b1 o1 n c b2 o2 m d xs ys w hx hy hbig hbig2 hc1 hc2
open Go.RowKit Go.Lib in
/-- The same where the first is of length 0 (a nil one too): no cell is asked for. (LAID: no walk: one application.) -/
theorem Try.slices_Equal_int_empty (a1 a2 : Option Addr) (c m d : Nat) (w : World) (hbig2 : m ≤ 9223372036854775807) :
    Calls Try.prog 26 #[.slice a1 0 c, .slice a2 m d] w fun e w' => e = .returned (.bool (decide (m = 0))) ∧ w' = w := Any.slices_Equal_int_empty Try.lays111 a1 a2 c m d w hbig2
def Try.laysNm215_ren : Go.Shelf.Ren := ⟨fun | 15 => 39 | n => n, fun | 22 => 26 | 3 => 3 | 4 => 4 | n => n, fun | n => n⟩
theorem Try.laysNm215 : Go.Proofs.Lays2.n15 Try.prog Try.laysNm215_ren := {
  mixed := by kernel_rfl
  f15 := Try.func39.trans (congrArg some (by kernel_rfl))
  t3 := Try.underlying3
  a3 := Try.isAgg3
  z3 := Try.sizeOf3
  v3 := Try.zeroValue3
  t4 := Try.underlying4
  a4 := Try.isAgg4
  z4 := Try.sizeOf4
  v4 := Try.zeroValue4
  t22 := Try.underlying26
  a22 := Try.isAgg26
  z22 := Try.sizeOf26
  v22 := Try.zeroValue26
  i3 := by kernel_rfl }
open Go.RowKit Go.Lib in
/-- slices.Clone at []int: "Clone returns a copy of the slice. The elements are copied using assignment, so this is a shallow clone. The result may have additional unused capacity. The result preserves the nilness of s.": OF A SLICE THAT IS NOT nil IT RETURNS A SLICE THAT IS NOT nil, OF THE SAME ELEMENTS, IN MEMORY OF THE CALL's OWN: in the how-to's words (6f): 'w'.ownsRow B e 1 v' n cells': v' begins at the head of a row among the blocks from B on (B: the heap's size at the call), not frozen, whose first cells are the elements · 'Below B w w'': below B all is as it was. The capacity is whatever the run-time gives. 'zs': what the cells behind the slice's address hold; 'zs.take n': its elements. (LAID: no walk: one application.) -/
theorem Try.slices_Clone_int (b off n c : Nat) (zs : List Int) (w : World) (hz : n ≤ zs.length) (hbig : n * 8 ≤ 140737488355328) (hc : ∀ j, j < zs.length → w.cell? ⟨b, off + j, none⟩ = some (.int .i64 (zs.getD j 0))) :
    Calls Try.prog 39 #[.slice (some ⟨b, off, none⟩) n c] w fun e w' => ∃ v', e = .returned v' ∧ w'.ownsRow w.heap.size 3 1 v' n ((zs.take n).map (Value.int .i64)) ∧ v' ≠ .slice none 0 0 ∧ Below w.heap.size w w' := Any.slices_Clone_int Try.laysNm215 b off n c zs w hz hbig hc
open Go.RowKit Go.Lib in
/-- The same at nil: nil comes back; the world is as it was. (LAID: no walk: one application.) -/
theorem Try.slices_Clone_int_nil (n c : Nat) (w : World) :
    Calls Try.prog 39 #[.slice none n c] w fun e w' => e = .returned (.slice none 0 0) ∧ w' = w := Any.slices_Clone_int_nil Try.laysNm215 n c w
open Go.RowKit Go.Lib in
/-- The same at a slice of length 0 that is not nil, WHATEVER ITS ADDRESS (no cell is asked for): a slice that is not nil and owns nothing comes back. (LAID: no walk: one application.) -/
theorem Try.slices_Clone_int_zero (a : Addr) (c : Nat) (w : World) :
    Calls Try.prog 39 #[.slice (some a) 0 c] w fun e w' => ∃ v', e = .returned v' ∧ w'.ownsRow w.heap.size 3 1 v' 0 [] ∧ v' ≠ .slice none 0 0 ∧ Below w.heap.size w w' := Any.slices_Clone_int_zero Try.laysNm215 a c w
open Go.RowKit Go.Lib in
theorem Try.slices_Equal_int_lens (a1 a2 : Option Addr) (n c m d : Nat) (w : World) (hnm : n ≠ m) :
    Calls Try.prog 26 #[.slice a1 n c, .slice a2 m d] w fun e w' => e = .returned (.bool false) ∧ w' = w := Any.slices_Equal_int_lens Try.lays111 a1 a2 n c m d w hnm
end Go.Proofs
