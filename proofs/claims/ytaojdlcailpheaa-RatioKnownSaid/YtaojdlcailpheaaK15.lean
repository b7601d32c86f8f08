/- Walks of package tails: Critical.
   Walks of package tails: Critical, where it is refused; Critical.
   Walks of the reference: trim, From, ValidNat, Compare, SameNat.
   Walks of the reference: Sum, Diff, Product. -/
import Derived.Test.YtaojdlcailpheaaK13
import Derived.Test.YtaojdlcailpheaaK14
import Derived.Test.YtaojdlcailpheaaK01
import Derived.Deep.LoopGhost
import Derived.Test.YtaojdlcailpheaaK02
import Derived.Maps.AppendAt
import Derived.OwnWalk
set_option linter.unusedVariables false
namespace Go.Proofs.Ytaojdlcailpheaa
open Go.RowKit Go.Shelf
attribute [local go_sem] Oper.semAt_some

/-- The part at k is above the bound x / y. -/
def Abv (n a c x y k : Nat) : Prop := (a + c) ^ n * x < tl a c n k * y
/-- Where the tails come above the bound, from n down. -/
def CritR (n a c x y r : Nat) : Prop := (∃ k, k ≤ n ∧ Abv n a c x y k ∧ (∀ j, k < j → j ≤ n → ¬ Abv n a c x y j) ∧ r = k + 1) ∨ ((∀ j, j ≤ n → ¬ Abv n a c x y j) ∧ r = 0)
end Go.Proofs.Ytaojdlcailpheaa

namespace Go.Proofs.Ytaojdlcailpheaa
open Go.RowKit

/-- What Critical returns: the least number of failures, or an error. -/
def critF (n : Int) (p b : F) (r : Int × Int) : Prop :=
  if checkE p (trialsB n 0 0) = 0 ∧ fracE b = 0 then ∃ m : Nat, r = ((m : Int), 0) ∧ CritR n.toNat (val p.num) (val p.den - val p.num) (val b.num) (val b.den) m
  else r = (0, if checkE p (trialsB n 0 0) = 1 ∨ fracE b = 1 then 1 else 2)
theorem frac_fr {x : F} (h : fracE x = 0) : ∃ a b, x = fr false a b ∧ Ok false a b ∧ a ≤ b ∧ val x.num = a ∧ val x.den = b := by
  obtain ⟨hv, hn, hle⟩ := fracE_zero h
  have he := hv.eq
  have hk := hv.2.2
  rw [hn] at he hk
  exact ⟨_, _, he, hk, hle, rfl, rfl⟩
end Go.Proofs.Ytaojdlcailpheaa

namespace Go.Proofs.Ytaojdlcailpheaa
open Go.RowKit

theorem ex_drew {w w1 : World} {n : Nat} (h : ∃ k, w1 = w.drewN k) : ∃ k, w1.drewN n = w.drewN k := by
  obtain ⟨k, rfl⟩ := h
  exact ⟨_, World.drewN_drewN _ _ _⟩

set_option maxHeartbeats 400000 in
theorem rtrim_some (b off n cap : Nat) (l : List Nat) (w : World) (hn : n ≤ cap) (hcap : cap ≤ 9223372036854775807)
    (hc : ∀ i, i < n → w.cell? ⟨b, off + i, none⟩ = some (.int .u32 ((lim l i : Nat) : Int))) :
    Calls Try.prog 93 #[.slice (some ⟨b, off, none⟩) n cap] w fun e w' => e = .returned (.slice (some ⟨b, off, none⟩) (tlen (fun i => lim l i) n) cap) ∧ w = w' := by
  go_enter Try.func93, Try.ntmps93
  go_wp2
  go_loop [0] (fun t => ∃ k : Nat, k ≤ n ∧ t = .slice (some ⟨b, off, none⟩) k cap ∧ Hid (tlen (fun i => lim l i) n = tlen (fun i => lim l i) k)) (fun t => match t with | .slice _ k _ => k | _ => 0)
  case atStart => exact ⟨n, Nat.le_refl _, rfl, rfl⟩
  case round =>
    obtain ⟨k, hk, rfl, hrel⟩ := hrel
    have hck : 0 < k → w.cell? ⟨b, off + (k - 1), none⟩ = some (.int .u32 ((lim l (k - 1) : Nat) : Int)) := fun _ => hc (k - 1) (by omega)
    clear hc
    go_wp2
    · go_round
      case rel => exact ⟨k - 1, by omega, rfl, hrel.out.trans (tlen_skip (by omega) (by simp_all))⟩
      case measure => simp; omega
    · go_ret
      exact ⟨by rw [hrel.out, tlen_stop (.inl (by simp_all))]; rfl, rfl⟩
    · go_ret
      exact ⟨by rw [hrel.out, tlen_stop (.inr (by omega))]; rfl, rfl⟩

theorem rtrim_c (w : World) (v : Value) (l : List Nat) (h : Sl w v l) :
    Calls Try.prog 93 #[v] w fun e w' => (∃ a cap, v = .slice a l.length cap ∧ e = .returned (.slice a (limbs (val l)).length cap) ∧ Sl w (.slice a (limbs (val l)).length cap) (limbs (val l))) ∧ w = w' := by
  obtain ⟨h0, a, cap, rfl, h2, h3, h5, h6⟩ := h
  have hs : Sl w (.slice a l.length cap) l := ⟨h0, a, cap, rfl, h2, h3, h5, h6⟩
  have hf := hs.front (limbs (val l)).length (limbs_len_le h0)
  rw [take_limbs h0] at hf
  rcases Nat.eq_zero_or_pos l.length with hl | hl
  · have hl' : l = [] := List.length_eq_zero_iff.1 hl
    subst hl'
    have e0 : (limbs (val [])).length = 0 := by simp [val, limbs_zero]
    refine Calls.mono (R := fun e w' => e = .returned (.slice a 0 cap) ∧ w = w') ?_ (fun e w' h => ⟨⟨a, cap, rfl, by rw [e0]; exact h.1, hf⟩, h.2⟩)
    clear hf hs h6 h0 e0
    go_enter Try.func93, Try.ntmps93
    go_wp2
    refine wp_loop_once ?_
    go_wp2
    go_ret
    exact ⟨rfl, rfl⟩
  · obtain ⟨b, off, rfl, hlt, hc⟩ := h6 hl
    refine (rtrim_some b off l.length cap l w h2 h3 hc).mono ?_
    rintro e w' ⟨rfl, rfl⟩
    have := tlen_val h0
    exact ⟨⟨_, cap, rfl, by rw [this], hf⟩, rfl⟩

set_option maxHeartbeats 400000 in
theorem From_c (n : Nat) (hn : n < 18446744073709551616) (w : World) :
    Calls Try.prog 51 #[.int .u64 (n : Int)] w (RetNat w n) := by
  go_enter Try.func51, Try.ntmps51
  go_wp2_with fail
  have hr := Row32.lit2 w (n % 4294967296) (n / 4294967296) ((n : Int) % 4294967296) ((n : Int) / 4294967296) (by omega) (by omega)
  have hs := Sl.of_row (cap := 2) hr (Lb.cons (by omega) (Lb.cons (by omega) Lb.nil)) (by simp) (by omega)
  have hv : val [n % 4294967296, n / 4294967296] = n := by simp only [val]; omega
  refine (rtrim_c _ _ _ hs).mono ?_
  rw [hv]
  rintro e w' ⟨⟨a, cap, _, rfl, hs'⟩, rfl⟩
  clear hs hv hr
  have HS := Lib.hid hs'
  clear hs'
  go_wp2_with fail
  go_ret
  exact ⟨_, rfl, HS.out, (Below.refl _ w).alloc (Nat.le_refl _) _⟩
theorem From_i (z : Int) (n : Nat) (hz : z = n) (hn : n < 18446744073709551616) (w : World) :
    Calls Try.prog 51 #[.int .u64 z] w (RetNat w n) := by
  subst hz; exact From_c n hn w

/-- A list of limbs is its number's own just where it is empty or its last limb is not 0. -/
theorem canon_iff {l : List Nat} (h : Lb l) : Canon l ↔ l.length = 0 ∨ lim l (l.length - 1) ≠ 0 := by
  constructor
  · intro hc
    rcases Nat.eq_zero_or_pos (val l) with h0 | h0
    · left; unfold Canon at hc; rw [hc, h0, limbs_zero]; rfl
    · right
      have := limbs_last h0
      unfold Canon at hc
      rw [← hc] at this; exact this
  · intro hc
    apply canon_of_len h
    rw [← tlen_val h]
    apply tlen_stop
    rcases hc with hc | hc
    · right; exact hc
    · left; exact hc

set_option maxHeartbeats 400000 in
theorem ValidNat_c (w : World) (v : Value) (l : List Nat) (h : Sl w v l) :
    Calls Try.prog 60 #[v] w (RetB w (l.length ≤ 32 ∧ Canon l)) := by
  obtain ⟨h0, a, cap, rfl, h2, h3, h5, h6⟩ := h
  have hcn := Lib.hid (canon_iff h0)
  by_cases hl : l.length ≤ 32
  · rcases Nat.lt_or_ge 0 l.length with hp | hp
    · obtain ⟨b, off, rfl, _, hc⟩ := h6 hp
      have hc0 := hc (l.length - 1) (by omega)
      have hlx := h0.getD (l.length - 1)
      clear hc h6 h5
      have HL := Lib.hid hl
      generalize lim l (l.length - 1) = z at *
      generalize l.length = n at *
      have hne : ((n : Int) == 0) = false := by rw [beq_eq_false_iff_ne]; omega
      rcases Nat.lt_or_ge 0 z with hz | hz
      · have hzb : ((z : Int) != 0) = true := by rw [bne_iff_ne]; omega
        go_enter Try.func60, Try.ntmps60
        go_wp2
        go_ret
        refine ⟨true, rfl, ?_, 0, rfl⟩
        rw [hcn.out]
        simp only [true_iff]
        exact ⟨HL.out, .inr (by omega)⟩
      · obtain rfl : z = 0 := by omega
        go_enter Try.func60, Try.ntmps60
        go_wp2
        go_ret
        refine ⟨false, rfl, ?_, 0, rfl⟩
        rw [hcn.out]
        simp only [Bool.false_eq_true, false_iff]
        rintro ⟨_, h | h⟩
        · omega
        · exact h rfl
    · have e : l = [] := List.length_eq_zero_iff.1 (by omega)
      subst e
      have hcc : Hid (Canon ([] : List Nat)) := by show Canon _; unfold Canon; simp [val, limbs_zero]
      clear h6 h5 hcn hl hp
      simp only [List.length_nil]
      go_enter Try.func60, Try.ntmps60
      go_wp2
      go_ret
      exact ⟨true, rfl, by simp [hcc.out], 0, rfl⟩
  · clear h6 h5
    go_enter Try.func60, Try.ntmps60
    go_wp2
    go_ret
    exact ⟨false, rfl, by simp, 0, rfl⟩

set_option maxHeartbeats 400000 in
theorem rcmp_far (a b : Option Addr) (n m c d : Nat) (w : World) (hn : n ≤ 9223372036854775807) (hm : m ≤ 9223372036854775807) (hne : n ≠ m) :
    Calls Try.prog 96 #[.slice a n c, .slice b m d] w fun e w' => e = .returned (.int .i64 (if n < m then -1 else 1)) ∧ w = w' := by
  by_cases hlt : n < m
  · rw [if_pos hlt]
    go_enter Try.func96, Try.ntmps96
    go_wp2
    go_ret
    exact ⟨rfl, rfl⟩
  · rw [if_neg hlt]
    go_enter Try.func96, Try.ntmps96
    go_wp2
    go_ret
    exact ⟨rfl, rfl⟩

set_option maxHeartbeats 400000 in
theorem rcmp_none (a b : Option Addr) (c d : Nat) (w : World) :
    Calls Try.prog 96 #[.slice a 0 c, .slice b 0 d] w fun e w' => e = .returned (.int .i64 0) ∧ w = w' := by
  go_enter Try.func96, Try.ntmps96
  go_wp2
  refine wp_loop_once ?_
  go_wp2
  go_ret
  exact ⟨rfl, rfl⟩

theorem cmpTop_lt' {l m : List Nat} {k : Nat} (h : lim l k < lim m k) : cmpTop l m (k + 1) = -1 := by rw [cmpTop, if_pos h]
theorem cmpTop_gt' {l m : List Nat} {k : Nat} (h : lim m k < lim l k) : cmpTop l m (k + 1) = 1 := by rw [cmpTop, if_neg (by omega), if_pos h]
theorem cmpTop_eq' {l m : List Nat} {k : Nat} (h : lim l k = lim m k) : cmpTop l m (k + 1) = cmpTop l m k := by rw [cmpTop, if_neg (by omega), if_neg (by omega)]

set_option maxRecDepth 100000 in
set_option maxHeartbeats 1000000 in
theorem rcmp_same (b off b' off' n c d : Nat) (l m : List Nat) (w : World) (hn : n ≤ 9223372036854775807) (hpos : 0 < n)
    (hc : ∀ i, i < n → w.cell? ⟨b, off + i, none⟩ = some (.int .u32 ((lim l i : Nat) : Int)))
    (hd : ∀ i, i < n → w.cell? ⟨b', off' + i, none⟩ = some (.int .u32 ((lim m i : Nat) : Int))) :
    Calls Try.prog 96 #[.slice (some ⟨b, off, none⟩) n c, .slice (some ⟨b', off', none⟩) n d] w
      fun e w' => e = .returned (.int .i64 (cmpTop l m n)) ∧ ∃ k, w' = w.drewN k := by
  go_enter Try.func96, Try.ntmps96
  go_wp2
  go_loopg [5] n (fun g t wr => g ≤ n ∧ t = .int .i64 ((g : Int) - 1) ∧ Hid (cmpTop l m n = cmpTop l m g) ∧ Hid (∃ q, wr = w.drewN q))
  case atStart => exact ⟨Nat.le_refl _, rfl, rfl, ⟨0, rfl⟩⟩
  case round =>
    obtain ⟨hk, rfl, hrel, hw⟩ := hrel
    obtain ⟨q, rfl⟩ := hw.out
    clear hw
    rcases Nat.eq_zero_or_pos gk with hz | hp
    · subst hz
      clear hc hd
      go_wp2
      go_ret
      refine ⟨?_, _, rfl⟩
      rw [hrel.out]; rfl
    · obtain ⟨k, rfl⟩ : ∃ k, gk = k + 1 := ⟨gk - 1, by omega⟩
      have em : ((k + 1 : Nat) : Int) - 1 = (k : Int) := by omega
      rw [em]
      have h1 : w.cell? ⟨b, off + k, none⟩ = some (.int .u32 ((lim l k : Nat) : Int)) := hc _ (by omega)
      have h2 : w.cell? ⟨b', off' + k, none⟩ = some (.int .u32 ((lim m k : Nat) : Int)) := hd _ (by omega)
      clear hc hd em
      have hz1 : (0 : Int) ≤ (k : Int) := by omega
      have hz2 : (k : Int) < n := by omega
      go_wp2
      go_quiet (fail)
      go_wp2
      · go_ret
        refine ⟨?_, ex_drew ⟨q, rfl⟩⟩
        rw [hrel.out, cmpTop_lt' (by assumption)]; rfl
      · go_quiet (fail)
        go_wp2
        · go_ret
          refine ⟨?_, ex_drew (ex_drew ⟨q, rfl⟩)⟩
          rw [hrel.out, cmpTop_gt' (by assumption)]; rfl
        · go_roundg k
          case measure => omega
          case rel => exact ⟨by omega, by go_num, hrel.out.trans (cmpTop_eq' (by omega)), ⟨_, rfl⟩⟩

/-- What the reference's Compare says of two lists. -/
def CmpS (a b : List Nat) (r : Int) : Prop :=
  (a.length < b.length → r = -1) ∧ (b.length < a.length → r = 1) ∧ (a.length = b.length → (val a < val b ∧ r = -1) ∨ (a = b ∧ r = 0) ∨ (val b < val a ∧ r = 1))
theorem Compare_c (w : World) (v u : Value) (l m : List Nat) (h : Sl w v l) (k : Sl w u m) :
    Calls Try.prog 96 #[v, u] w (RetI w (CmpS l m)) := by
  obtain ⟨h0, a, c, rfl, h2, h3, h5, h6⟩ := h
  obtain ⟨k0, b, d, rfl, k2, k3, k5, k6⟩ := k
  by_cases hlen : l.length = m.length
  · rcases Nat.eq_zero_or_pos l.length with hz | hp
    · have e1 : l = [] := List.length_eq_zero_iff.1 hz
      have e2 : m = [] := List.length_eq_zero_iff.1 (by omega)
      subst e1; subst e2
      refine (rcmp_none a b c d w).mono ?_
      rintro e w' ⟨rfl, rfl⟩
      exact ⟨0, rfl, ⟨fun h => by simp at h, fun h => by simp at h, fun _ => .inr (.inl ⟨rfl, rfl⟩)⟩, 0, rfl⟩
    · obtain ⟨b1, o1, rfl, _, hc⟩ := h6 hp
      obtain ⟨b2, o2, rfl, _, hd⟩ := k6 (by omega)
      rw [← hlen]
      refine (rcmp_same b1 o1 b2 o2 l.length c d l m w (by omega) hp hc (by rw [hlen]; exact hd)).mono ?_
      rintro e w' ⟨rfl, n, rfl⟩
      refine ⟨_, rfl, ⟨fun h => by omega, fun h => by omega, fun _ => ?_⟩, n, rfl⟩
      exact cmpTop_ext h0 k0 hlen l.length (Nat.le_refl _) (by rw [List.drop_of_length_le (Nat.le_refl _), List.drop_of_length_le (by omega)])
  · refine (rcmp_far a b l.length m.length c d w (by omega) (by omega) hlen).mono ?_
    rintro e w' ⟨rfl, rfl⟩
    exact ⟨_, rfl, ⟨fun h => if_pos h, fun h => if_neg (by omega), fun h => absurd h hlen⟩, 0, rfl⟩

/-- SameNat: are the limbs the same? -/
theorem SameNat_c (w : World) (v u : Value) (l m : List Nat) (h : Sl w v l) (k : Sl w u m) :
    Calls Try.prog 61 #[v, u] w (RetB w (l = m)) := by
  have HS := Lib.hid h
  have KS := Lib.hid k
  obtain ⟨h0, a, c, rfl, h2, h3, h5, h6⟩ := h
  obtain ⟨k0, b, d, rfl, k2, k3, k5, k6⟩ := k
  clear h5 h6 k5 k6
  by_cases hlen : l.length = m.length
  · have HL := Lib.hid hlen
    have hbe : ((l.length : Int) == (m.length : Int)) = true := by rw [beq_iff_eq]; omega
    clear hlen
    go_enter Try.func61, Try.ntmps61
    go_wp2_with fail
    refine (Compare_c _ _ _ _ _ HS.out KS.out).mono ?_
    rintro e w' ⟨r, rfl, hr, n, rfl⟩
    have HR := Lib.hid hr
    clear hr
    go_wp2_with fail
    go_ret
    refine ⟨_, rfl, ?_, n, rfl⟩
    simp only [beq_iff_eq]
    rcases HR.out.2.2 HL.out with ⟨h1, h2⟩ | ⟨h1, h2⟩ | ⟨h1, h2⟩
    · constructor
      · intro h; omega
      · intro h; subst h; omega
    · exact ⟨fun _ => h1, fun _ => h2⟩
    · constructor
      · intro h; omega
      · intro h; subst h; omega
  · have hbe : ((l.length : Int) == (m.length : Int)) = false := by rw [beq_eq_false_iff_ne]; omega
    have HL := Lib.hid hlen
    clear hlen
    go_enter Try.func61, Try.ntmps61
    go_wp2_with fail
    go_ret
    exact ⟨false, rfl, by simp only [Bool.false_eq_true, false_iff]; intro h; subst h; exact HL.out rfl, 0, rfl⟩
end Go.Proofs.Ytaojdlcailpheaa

namespace Go.Proofs.Ytaojdlcailpheaa
open Go.RowKit

/-- After i rounds of Sum. -/
def SumRel (a b o : List Nat) (i c : Nat) : Prop := o.length = i ∧ Lb o ∧ c ≤ 1 ∧ val o + c * 4294967296 ^ i = val (a.take i) + val (b.take i)
theorem SumRel.start (a b : List Nat) : SumRel a b [] 0 0 := ⟨rfl, Lb.nil, by omega, by simp [val]⟩
theorem SumRel.step {a b o : List Nat} {i c : Nat} (h : SumRel a b o i c) (ha : Lb a) (hb : Lb b) : SumRel a b (o ++ [addLo (lim a i) (lim b i) c]) (i + 1) (addHi (lim a i) (lim b i) c) := by
  obtain ⟨h1, h2, h3, h4⟩ := h
  have e0 := add_eq (lim a i) (lim b i) c
  have e2 := val_take_step a i
  have e3 := val_take_step b i
  refine ⟨by simp [h1], h2.append (Lb.cons (addLo_lt _ _ _) Lb.nil), addHi_le (ha.getD i) (hb.getD i) h3, ?_⟩
  rw [val_append, h1, e2, e3, Nat.pow_succ]
  simp only [val]
  generalize addLo (lim a i) (lim b i) c = lo at *
  generalize addHi (lim a i) (lim b i) c = hi at *
  grind
theorem SumRel.done {a b o : List Nat} {n c : Nat} (h : SumRel a b o n c) (ha : a.length ≤ n) (hb : b.length ≤ n) : val (o ++ [c]) = val a + val b ∧ Lb (o ++ [c]) := by
  obtain ⟨h1, h2, h3, h4⟩ := h
  rw [val_take_ge ha, val_take_ge hb] at h4
  refine ⟨?_, h2.append (Lb.cons (by omega) Lb.nil)⟩
  rw [val_append, h1]
  simp only [val]
  grind

theorem Sl.shape' {w : World} {v : Value} {l : List Nat} (h : Sl w v l) : ∃ a cap, v = .slice a l.length cap ∧ l.length ≤ cap := by
  obtain ⟨_, a, cap, h1, h2, _⟩ := h
  exact ⟨a, cap, h1, h2⟩
theorem own_cast {w : World} {base n : Nat} {v : Value} {l : List Nat} {x : Nat} {z : Int} (h : w.ownsRow base 51 1 v n (l.map u32 ++ [.int .u32 z])) (hz : z = (x : Int)) : w.ownsRow base 51 1 v n ((l ++ [x]).map u32) := by
  subst hz
  simpa [u32] using h

set_option maxRecDepth 100000 in
set_option maxHeartbeats 2000000 in
theorem Sum_c (w : World) (va vb : Value) (a b : List Nat) (h : Sl w va a) (k : Sl w vb b) (ha : a.length ≤ 1000000) (hb : b.length ≤ 1000000) :
    Calls Try.prog 78 #[va, vb] w (RetNat w (val a + val b)) := by
  have hs := h
  have ks := k
  obtain ⟨h0, p, cap, rfl, h2, h3, h5, h6⟩ := h
  obtain ⟨k0, q, cap', rfl, k2, k3, k5, k6⟩ := k
  have HS := Lib.hid hs
  have KS := Lib.hid ks
  obtain ⟨i0, hi, hz0, hz1, hz2⟩ := info_parts info32
  have hlm : Hid (maxLen = 9223372036854775807) := rfl
  obtain ⟨m, hm⟩ : ∃ m, m = max a.length b.length := ⟨_, rfl⟩
  have hm1 : a.length ≤ m := by omega
  have hm2 : b.length ≤ m := by omega
  have hm3 : m ≤ 1000000 := by omega
  have hm4 : Hid (m ≤ a.length ∨ m ≤ b.length) := by show _ ∨ _; omega
  have hmx : (if a.length < b.length then ((b.length : Nat) : Int) else ((a.length : Nat) : Int)) = (m : Int) := by split <;> omega
  clear hs ks h5 h6 k5 k6 hm
  go_enter Try.func78, Try.ntmps78
  go_wp2
  go_loopg [5, 6, 7] (m) (fun g o c t wx => ∃ (i x : Nat) (l : List Nat), i ≤ m ∧ g = m - i ∧ x ≤ 1 ∧ c = .int .u64 (x : Int) ∧ t = .int .i64 (i : Int) ∧ wx.ownsRow w.heap.size 51 1 o i (l.map u32) ∧ Hid (SumRel a b l i x) ∧ Below w.heap.size w wx)
  case atStart => exact ⟨0, 0, [], Nat.zero_le _, rfl, by omega, rfl, rfl, World.ownsRow_nil _ _ _ _, SumRel.start a b, Below.refl _ w⟩
  case round =>
    obtain ⟨i, x, l, hile, rfl, hx, rfl, rfl, hown, hrel, hbl⟩ := hrel
    have hsz := hbl.size
    by_cases hlt : i < m
    · have hax := h0.getD i
      have hbx := k0.getD i
      have hnext := hrel.out.step h0 k0
      have HN := Lib.hid hnext
      have hhi := addHi_le hax hbx hx
      have HOWN := Lib.hid hown
      clear hown hnext
      by_cases hla : i < a.length
      · by_cases hlb : i < b.length
        · skip
          obtain ⟨_, _, _, hv, _, _, _, h6⟩ := HS.out
          obtain ⟨rfl, rfl⟩ : p = _ ∧ cap = _ := by simpa using hv
          obtain ⟨b1, o1, rfl, hb1, hc1⟩ := h6 (by omega)
          have hca : wr.cell? ⟨b1, o1 + i, none⟩ = some (.int .u32 ((lim a i : Nat) : Int)) := (hbl.cell (p := ⟨b1, o1 + i, none⟩) hb1).trans (hc1 i hla)
          clear hc1 h6 hv
          obtain ⟨_, _, _, hv, _, _, _, k6⟩ := KS.out
          obtain ⟨rfl, rfl⟩ : q = _ ∧ cap' = _ := by simpa using hv
          obtain ⟨b2, o2, rfl, hb2, hc2⟩ := k6 (by omega)
          have hcb : wr.cell? ⟨b2, o2 + i, none⟩ = some (.int .u32 ((lim b i : Nat) : Int)) := (hbl.cell (p := ⟨b2, o2 + i, none⟩) hb2).trans (hc2 i hlb)
          clear hc2 k6 hv
          have hz1' : ((x : Int) + (lim a i : Nat) + (lim b i : Nat)) % 4294967296 = ((addLo (lim a i) (lim b i) x : Nat) : Int) := by unfold addLo; omega
          have hz2' : ((x : Int) + (lim a i : Nat) + (lim b i : Nat)) / 4294967296 = ((addHi (lim a i) (lim b i) x : Nat) : Int) := by unfold addHi; omega
          go_wp2_with (at_builtin; refine wpList_append_own _ rfl _ _ 23 rfl w.heap.size 51 i0 (.int .u32 0) 1 4 Try.underlying23 hi hz0 hz1 hz2 rfl (by decide) _ _ _ rfl (HOWN.out.alloc _) ⟨wr.heap.size, 0, none⟩ 1 1 [.int .u32 ((addLo (lim a i) (lim b i) x : Nat) : Int)] rfl rfl ?c1 ?c2 ?c3 ?c4 ?c5 ?_)
          case c1 => exact cell_one_new _ _ _
          case c2 => simp [Value.oneCell']
          case c3 => rw [hlm.out]; omega
          case c4 => omega
          case c5 => simp; omega
          intro v' w1 hown' hgrow _
          have hown2 := own_cast hown' rfl
          have hb1 := (hbl.alloc hsz (.cells #[.int .u32 ((addLo (lim a i) (lim b i) x : Nat) : Int)] 51)).grown hgrow (by simp; omega) (fun k hk => (HOWN.out.lt k hk).1)
          have HOWN2 := Lib.hid hown2
          have HB1 := Lib.hid hb1
          clear hown' hown2 hb1 hgrow
          go_wp2
          go_roundg (m - (i + 1))
          case measure => omega
          case rel => exact ⟨i + 1, _, _, by omega, rfl, hhi, rfl, by go_num, HOWN2.out, HN.out, HB1.out⟩
        · have hzb : lim b i = 0 := getD_ge (by omega)
          have HZB := Lib.hid hzb
          clear hzb
          obtain ⟨_, _, _, hv, _, _, _, h6⟩ := HS.out
          obtain ⟨rfl, rfl⟩ : p = _ ∧ cap = _ := by simpa using hv
          obtain ⟨b1, o1, rfl, hb1, hc1⟩ := h6 (by omega)
          have hca : wr.cell? ⟨b1, o1 + i, none⟩ = some (.int .u32 ((lim a i : Nat) : Int)) := (hbl.cell (p := ⟨b1, o1 + i, none⟩) hb1).trans (hc1 i hla)
          clear hc1 h6 hv
          have hz1' : ((x : Int) + (lim a i : Nat)) % 4294967296 = ((addLo (lim a i) (lim b i) x : Nat) : Int) := by have := HZB.out; unfold addLo; omega
          have hz2' : ((x : Int) + (lim a i : Nat)) / 4294967296 = ((addHi (lim a i) (lim b i) x : Nat) : Int) := by have := HZB.out; unfold addHi; omega
          go_wp2_with (at_builtin; refine wpList_append_own _ rfl _ _ 23 rfl w.heap.size 51 i0 (.int .u32 0) 1 4 Try.underlying23 hi hz0 hz1 hz2 rfl (by decide) _ _ _ rfl (HOWN.out.alloc _) ⟨wr.heap.size, 0, none⟩ 1 1 [.int .u32 ((addLo (lim a i) (lim b i) x : Nat) : Int)] rfl rfl ?c1 ?c2 ?c3 ?c4 ?c5 ?_)
          case c1 => exact cell_one_new _ _ _
          case c2 => simp [Value.oneCell']
          case c3 => rw [hlm.out]; omega
          case c4 => omega
          case c5 => simp; omega
          intro v' w1 hown' hgrow _
          have hown2 := own_cast hown' rfl
          have hb1 := (hbl.alloc hsz (.cells #[.int .u32 ((addLo (lim a i) (lim b i) x : Nat) : Int)] 51)).grown hgrow (by simp; omega) (fun k hk => (HOWN.out.lt k hk).1)
          have HOWN2 := Lib.hid hown2
          have HB1 := Lib.hid hb1
          clear hown' hown2 hb1 hgrow
          go_wp2
          go_roundg (m - (i + 1))
          case measure => omega
          case rel => exact ⟨i + 1, _, _, by omega, rfl, hhi, rfl, by go_num, HOWN2.out, HN.out, HB1.out⟩
      · have hlb : i < b.length := by have := hm4.out; omega
        have hza : lim a i = 0 := getD_ge (by omega)
        have HZA := Lib.hid hza
        clear hza
        obtain ⟨_, _, _, hv, _, _, _, k6⟩ := KS.out
        obtain ⟨rfl, rfl⟩ : q = _ ∧ cap' = _ := by simpa using hv
        obtain ⟨b2, o2, rfl, hb2, hc2⟩ := k6 (by omega)
        have hcb : wr.cell? ⟨b2, o2 + i, none⟩ = some (.int .u32 ((lim b i : Nat) : Int)) := (hbl.cell (p := ⟨b2, o2 + i, none⟩) hb2).trans (hc2 i hlb)
        clear hc2 k6 hv
        have hz1' : ((x : Int) + (lim b i : Nat)) % 4294967296 = ((addLo (lim a i) (lim b i) x : Nat) : Int) := by have := HZA.out; unfold addLo; omega
        have hz2' : ((x : Int) + (lim b i : Nat)) / 4294967296 = ((addHi (lim a i) (lim b i) x : Nat) : Int) := by have := HZA.out; unfold addHi; omega
        go_wp2_with (at_builtin; refine wpList_append_own _ rfl _ _ 23 rfl w.heap.size 51 i0 (.int .u32 0) 1 4 Try.underlying23 hi hz0 hz1 hz2 rfl (by decide) _ _ _ rfl (HOWN.out.alloc _) ⟨wr.heap.size, 0, none⟩ 1 1 [.int .u32 ((addLo (lim a i) (lim b i) x : Nat) : Int)] rfl rfl ?c1 ?c2 ?c3 ?c4 ?c5 ?_)
        case c1 => exact cell_one_new _ _ _
        case c2 => simp [Value.oneCell']
        case c3 => rw [hlm.out]; omega
        case c4 => omega
        case c5 => simp; omega
        intro v' w1 hown' hgrow _
        have hown2 := own_cast hown' rfl
        have hb1 := (hbl.alloc hsz (.cells #[.int .u32 ((addLo (lim a i) (lim b i) x : Nat) : Int)] 51)).grown hgrow (by simp; omega) (fun k hk => (HOWN.out.lt k hk).1)
        have HOWN2 := Lib.hid hown2
        have HB1 := Lib.hid hb1
        clear hown' hown2 hb1 hgrow
        go_wp2
        go_roundg (m - (i + 1))
        case measure => omega
        case rel => exact ⟨i + 1, _, _, by omega, rfl, hhi, rfl, by go_num, HOWN2.out, HN.out, HB1.out⟩
    · have hd := hrel.out.done (n := i) (by omega) (by omega)
      have HD1 := Lib.hid hd.1
      have hlb := hd.2
      have HOWN := Lib.hid hown
      clear hd hown
      go_wp2_with (at_builtin; refine wpList_append_own _ rfl _ _ 23 rfl w.heap.size 51 i0 (.int .u32 0) 1 4 Try.underlying23 hi hz0 hz1 hz2 rfl (by decide) _ _ _ rfl (HOWN.out.alloc _) ⟨wr.heap.size, 0, none⟩ 1 1 [.int .u32 (x : Int)] rfl rfl ?c1 ?c2 ?c3 ?c4 ?c5 ?_)
      case c1 => exact cell_one_new _ _ _
      case c2 => simp [Value.oneCell']
      case c3 => rw [hlm.out]; omega
      case c4 => omega
      case c5 => simp; omega
      intro v' w1 hown' hgrow _
      have hown2 := own_cast hown' rfl
      have hs2 := Sl.of_own hown2 hlb
      have HS2 := Lib.hid hs2
      have hb1 := (hbl.alloc hsz (.cells #[.int .u32 (x : Int)] 51)).grown hgrow (by simp; omega) (fun k hk => (HOWN.out.lt k hk).1)
      have HB1 := Lib.hid hb1
      clear hs2 hown2 hown' hb1 hgrow
      go_wp2_with fail
      refine (rtrim_c _ _ _ HS2.out).mono ?_
      rw [HD1.out]
      rintro e w' ⟨⟨a', cap'', hv, rfl, hs'⟩, rfl⟩
      clear hv
      have HS' := Lib.hid hs'
      clear hs'
      go_wp2_with fail
      go_ret
      exact ⟨_, rfl, HS'.out, HB1.out⟩
end Go.Proofs.Ytaojdlcailpheaa
