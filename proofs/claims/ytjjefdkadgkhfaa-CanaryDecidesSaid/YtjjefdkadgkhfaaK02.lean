/- Walks of the reference: trim, From, ValidNat, Compare, SameNat.
   Plain arithmetic behind the loops of plus, minus, times and short.
   Walks of the reference: Sum, Diff, Product.
   Walks: math/bits Add32, Sub32, Div32. -/
import Derived.Test.YtjjefdkadgkhfaaK01
import Derived.Deep.LoopGhost
import Derived.Maps.AppendAt
import Derived.OwnWalk
import Derived.Deep.QuietTactic
import Derived.BigQuiet
import Derived.Laws.BitsAllLaws
set_option linter.unusedVariables false
namespace Go.Proofs.Ytjjefdkadgkhfaa
open Go.RowKit

theorem ex_drew {w w1 : World} {n : Nat} (h : ∃ k, w1 = w.drewN k) : ∃ k, w1.drewN n = w.drewN k := by
  obtain ⟨k, rfl⟩ := h
  exact ⟨_, World.drewN_drewN _ _ _⟩

set_option maxHeartbeats 400000 in
theorem rtrim_some (b off n cap : Nat) (l : List Nat) (w : World) (hn : n ≤ cap) (hcap : cap ≤ 9223372036854775807)
    (hc : ∀ i, i < n → w.cell? ⟨b, off + i, none⟩ = some (.int .u32 ((lim l i : Nat) : Int))) :
    Calls Try.prog 84 #[.slice (some ⟨b, off, none⟩) n cap] w fun e w' => e = .returned (.slice (some ⟨b, off, none⟩) (tlen (fun i => lim l i) n) cap) ∧ w = w' := by
  go_enter Try.func84, Try.ntmps84
  go_wp2
  go_loop [0] (fun t => ∃ k : Nat, k ≤ n ∧ t = .slice (some ⟨b, off, none⟩) k cap ∧ Hid (tlen (fun i => lim l i) n = tlen (fun i => lim l i) k)) (fun t => match t with | .slice _ k _ => k | _ => 0)
  case atStart => exact ⟨n, Nat.le_refl _, rfl, rfl⟩
  case round =>
    obtain ⟨k, hk, rfl, hrel⟩ := hrel
    have hck : 0 < k → w.cell? ⟨b, off + (k - 1), none⟩ = some (.int .u32 ((lim l (k - 1) : Nat) : Int)) := fun _ => hc (k - 1) (by omega)
    clear hc
    go_wp2
    · go_round
      case rel => exact ⟨k - 1, by omega, rfl, hrel.out.trans (tlen_skip (by omega) (by simp_all))⟩
      case measure => simp; omega
    · go_ret
      exact ⟨by rw [hrel.out, tlen_stop (.inl (by simp_all))]; rfl, rfl⟩
    · go_ret
      exact ⟨by rw [hrel.out, tlen_stop (.inr (by omega))]; rfl, rfl⟩

theorem rtrim_c (w : World) (v : Value) (l : List Nat) (h : Sl w v l) :
    Calls Try.prog 84 #[v] w fun e w' => (∃ a cap, v = .slice a l.length cap ∧ e = .returned (.slice a (limbs (val l)).length cap) ∧ Sl w (.slice a (limbs (val l)).length cap) (limbs (val l))) ∧ w = w' := by
  obtain ⟨h0, a, cap, rfl, h2, h3, h5, h6⟩ := h
  have hs : Sl w (.slice a l.length cap) l := ⟨h0, a, cap, rfl, h2, h3, h5, h6⟩
  have hf := hs.front (limbs (val l)).length (limbs_len_le h0)
  rw [take_limbs h0] at hf
  rcases Nat.eq_zero_or_pos l.length with hl | hl
  · have hl' : l = [] := List.length_eq_zero_iff.1 hl
    subst hl'
    have e0 : (limbs (val [])).length = 0 := by simp [val, limbs_zero]
    refine Calls.mono (R := fun e w' => e = .returned (.slice a 0 cap) ∧ w = w') ?_ (fun e w' h => ⟨⟨a, cap, rfl, by rw [e0]; exact h.1, hf⟩, h.2⟩)
    clear hf hs h6 h0 e0
    go_enter Try.func84, Try.ntmps84
    go_wp2
    refine wp_loop_once ?_
    go_wp2
    go_ret
    exact ⟨rfl, rfl⟩
  · obtain ⟨b, off, rfl, hlt, hc⟩ := h6 hl
    refine (rtrim_some b off l.length cap l w h2 h3 hc).mono ?_
    rintro e w' ⟨rfl, rfl⟩
    have := tlen_val h0
    exact ⟨⟨_, cap, rfl, by rw [this], hf⟩, rfl⟩

set_option maxHeartbeats 400000 in
theorem From_c (n : Nat) (hn : n < 18446744073709551616) (w : World) :
    Calls Try.prog 60 #[.int .u64 (n : Int)] w (RetNat w n) := by
  go_enter Try.func60, Try.ntmps60
  go_wp2_with fail
  have hr := Row32.lit2 w (n % 4294967296) (n / 4294967296) ((n : Int) % 4294967296) ((n : Int) / 4294967296) (by omega) (by omega)
  have hs := Sl.of_row (cap := 2) hr (Lb.cons (by omega) (Lb.cons (by omega) Lb.nil)) (by simp) (by omega)
  have hv : val [n % 4294967296, n / 4294967296] = n := by simp only [val]; omega
  refine (rtrim_c _ _ _ hs).mono ?_
  rw [hv]
  rintro e w' ⟨⟨a, cap, _, rfl, hs'⟩, rfl⟩
  clear hs hv hr
  have HS := Lib.hid hs'
  clear hs'
  go_wp2_with fail
  go_ret
  exact ⟨_, rfl, HS.out, (Below.refl _ w).alloc (Nat.le_refl _) _⟩
theorem From_i (z : Int) (n : Nat) (hz : z = n) (hn : n < 18446744073709551616) (w : World) :
    Calls Try.prog 60 #[.int .u64 z] w (RetNat w n) := by
  subst hz; exact From_c n hn w

/-- A list of limbs is its number's own just where it is empty or its last limb is not 0. -/
theorem canon_iff {l : List Nat} (h : Lb l) : Canon l ↔ l.length = 0 ∨ lim l (l.length - 1) ≠ 0 := by
  constructor
  · intro hc
    rcases Nat.eq_zero_or_pos (val l) with h0 | h0
    · left; unfold Canon at hc; rw [hc, h0, limbs_zero]; rfl
    · right
      have := limbs_last h0
      unfold Canon at hc
      rw [← hc] at this; exact this
  · intro hc
    apply canon_of_len h
    rw [← tlen_val h]
    apply tlen_stop
    rcases hc with hc | hc
    · right; exact hc
    · left; exact hc

set_option maxHeartbeats 400000 in
theorem rcmp_far (a b : Option Addr) (n m c d : Nat) (w : World) (hn : n ≤ 9223372036854775807) (hm : m ≤ 9223372036854775807) (hne : n ≠ m) :
    Calls Try.prog 64 #[.slice a n c, .slice b m d] w fun e w' => e = .returned (.int .i64 (if n < m then -1 else 1)) ∧ w = w' := by
  by_cases hlt : n < m
  · rw [if_pos hlt]
    go_enter Try.func64, Try.ntmps64
    go_wp2
    go_ret
    exact ⟨rfl, rfl⟩
  · rw [if_neg hlt]
    go_enter Try.func64, Try.ntmps64
    go_wp2
    go_ret
    exact ⟨rfl, rfl⟩

set_option maxHeartbeats 400000 in
theorem rcmp_none (a b : Option Addr) (c d : Nat) (w : World) :
    Calls Try.prog 64 #[.slice a 0 c, .slice b 0 d] w fun e w' => e = .returned (.int .i64 0) ∧ w = w' := by
  go_enter Try.func64, Try.ntmps64
  go_wp2
  refine wp_loop_once ?_
  go_wp2
  go_ret
  exact ⟨rfl, rfl⟩

theorem cmpTop_lt' {l m : List Nat} {k : Nat} (h : lim l k < lim m k) : cmpTop l m (k + 1) = -1 := by rw [cmpTop, if_pos h]
theorem cmpTop_gt' {l m : List Nat} {k : Nat} (h : lim m k < lim l k) : cmpTop l m (k + 1) = 1 := by rw [cmpTop, if_neg (by omega), if_pos h]
theorem cmpTop_eq' {l m : List Nat} {k : Nat} (h : lim l k = lim m k) : cmpTop l m (k + 1) = cmpTop l m k := by rw [cmpTop, if_neg (by omega), if_neg (by omega)]

set_option maxRecDepth 100000 in
set_option maxHeartbeats 1000000 in
theorem rcmp_same (b off b' off' n c d : Nat) (l m : List Nat) (w : World) (hn : n ≤ 9223372036854775807) (hpos : 0 < n)
    (hc : ∀ i, i < n → w.cell? ⟨b, off + i, none⟩ = some (.int .u32 ((lim l i : Nat) : Int)))
    (hd : ∀ i, i < n → w.cell? ⟨b', off' + i, none⟩ = some (.int .u32 ((lim m i : Nat) : Int))) :
    Calls Try.prog 64 #[.slice (some ⟨b, off, none⟩) n c, .slice (some ⟨b', off', none⟩) n d] w
      fun e w' => e = .returned (.int .i64 (cmpTop l m n)) ∧ ∃ k, w' = w.drewN k := by
  go_enter Try.func64, Try.ntmps64
  go_wp2
  go_loopg [5] n (fun g t wr => g ≤ n ∧ t = .int .i64 ((g : Int) - 1) ∧ Hid (cmpTop l m n = cmpTop l m g) ∧ Hid (∃ q, wr = w.drewN q))
  case atStart => exact ⟨Nat.le_refl _, rfl, rfl, ⟨0, rfl⟩⟩
  case round =>
    obtain ⟨hk, rfl, hrel, hw⟩ := hrel
    obtain ⟨q, rfl⟩ := hw.out
    clear hw
    rcases Nat.eq_zero_or_pos gk with hz | hp
    · subst hz
      clear hc hd
      go_wp2
      go_ret
      refine ⟨?_, _, rfl⟩
      rw [hrel.out]; rfl
    · obtain ⟨k, rfl⟩ : ∃ k, gk = k + 1 := ⟨gk - 1, by omega⟩
      have em : ((k + 1 : Nat) : Int) - 1 = (k : Int) := by omega
      rw [em]
      have h1 : w.cell? ⟨b, off + k, none⟩ = some (.int .u32 ((lim l k : Nat) : Int)) := hc _ (by omega)
      have h2 : w.cell? ⟨b', off' + k, none⟩ = some (.int .u32 ((lim m k : Nat) : Int)) := hd _ (by omega)
      clear hc hd em
      have hz1 : (0 : Int) ≤ (k : Int) := by omega
      have hz2 : (k : Int) < n := by omega
      go_wp2
      go_quiet (fail)
      go_wp2
      · go_ret
        refine ⟨?_, ex_drew ⟨q, rfl⟩⟩
        rw [hrel.out, cmpTop_lt' (by assumption)]; rfl
      · go_quiet (fail)
        go_wp2
        · go_ret
          refine ⟨?_, ex_drew (ex_drew ⟨q, rfl⟩)⟩
          rw [hrel.out, cmpTop_gt' (by assumption)]; rfl
        · go_roundg k
          case measure => omega
          case rel => exact ⟨by omega, by go_num, hrel.out.trans (cmpTop_eq' (by omega)), ⟨_, rfl⟩⟩

/-- What the reference's Compare says of two lists. -/
def CmpS (a b : List Nat) (r : Int) : Prop :=
  (a.length < b.length → r = -1) ∧ (b.length < a.length → r = 1) ∧ (a.length = b.length → (val a < val b ∧ r = -1) ∨ (a = b ∧ r = 0) ∨ (val b < val a ∧ r = 1))
theorem Compare_c (w : World) (v u : Value) (l m : List Nat) (h : Sl w v l) (k : Sl w u m) :
    Calls Try.prog 64 #[v, u] w (RetI w (CmpS l m)) := by
  obtain ⟨h0, a, c, rfl, h2, h3, h5, h6⟩ := h
  obtain ⟨k0, b, d, rfl, k2, k3, k5, k6⟩ := k
  by_cases hlen : l.length = m.length
  · rcases Nat.eq_zero_or_pos l.length with hz | hp
    · have e1 : l = [] := List.length_eq_zero_iff.1 hz
      have e2 : m = [] := List.length_eq_zero_iff.1 (by omega)
      subst e1; subst e2
      refine (rcmp_none a b c d w).mono ?_
      rintro e w' ⟨rfl, rfl⟩
      exact ⟨0, rfl, ⟨fun h => by simp at h, fun h => by simp at h, fun _ => .inr (.inl ⟨rfl, rfl⟩)⟩, 0, rfl⟩
    · obtain ⟨b1, o1, rfl, _, hc⟩ := h6 hp
      obtain ⟨b2, o2, rfl, _, hd⟩ := k6 (by omega)
      rw [← hlen]
      refine (rcmp_same b1 o1 b2 o2 l.length c d l m w (by omega) hp hc (by rw [hlen]; exact hd)).mono ?_
      rintro e w' ⟨rfl, n, rfl⟩
      refine ⟨_, rfl, ⟨fun h => by omega, fun h => by omega, fun _ => ?_⟩, n, rfl⟩
      exact cmpTop_ext h0 k0 hlen l.length (Nat.le_refl _) (by rw [List.drop_of_length_le (Nat.le_refl _), List.drop_of_length_le (by omega)])
  · refine (rcmp_far a b l.length m.length c d w (by omega) (by omega) hlen).mono ?_
    rintro e w' ⟨rfl, rfl⟩
    exact ⟨_, rfl, ⟨fun h => if_pos h, fun h => if_neg (by omega), fun h => absurd h hlen⟩, 0, rfl⟩

/-- SameNat: are the limbs the same? -/
theorem SameNat_c (w : World) (v u : Value) (l m : List Nat) (h : Sl w v l) (k : Sl w u m) :
    Calls Try.prog 41 #[v, u] w (RetB w (l = m)) := by
  have HS := Lib.hid h
  have KS := Lib.hid k
  obtain ⟨h0, a, c, rfl, h2, h3, h5, h6⟩ := h
  obtain ⟨k0, b, d, rfl, k2, k3, k5, k6⟩ := k
  clear h5 h6 k5 k6
  by_cases hlen : l.length = m.length
  · have HL := Lib.hid hlen
    have hbe : ((l.length : Int) == (m.length : Int)) = true := by rw [beq_iff_eq]; omega
    clear hlen
    go_enter Try.func41, Try.ntmps41
    go_wp2_with fail
    refine (Compare_c _ _ _ _ _ HS.out KS.out).mono ?_
    rintro e w' ⟨r, rfl, hr, n, rfl⟩
    have HR := Lib.hid hr
    clear hr
    go_wp2_with fail
    go_ret
    refine ⟨_, rfl, ?_, n, rfl⟩
    simp only [beq_iff_eq]
    rcases HR.out.2.2 HL.out with ⟨h1, h2⟩ | ⟨h1, h2⟩ | ⟨h1, h2⟩
    · constructor
      · intro h; omega
      · intro h; subst h; omega
    · exact ⟨fun _ => h1, fun _ => h2⟩
    · constructor
      · intro h; omega
      · intro h; subst h; omega
  · have hbe : ((l.length : Int) == (m.length : Int)) = false := by rw [beq_eq_false_iff_ne]; omega
    have HL := Lib.hid hlen
    clear hlen
    go_enter Try.func41, Try.ntmps41
    go_wp2_with fail
    go_ret
    exact ⟨false, rfl, by simp only [Bool.false_eq_true, false_iff]; intro h; subst h; exact HL.out rfl, 0, rfl⟩
end Go.Proofs.Ytjjefdkadgkhfaa

namespace Go.Proofs.Ytjjefdkadgkhfaa

/-- What Add32, Sub32 and Div32 return, under names that the walk does not open. -/
def addLo (x y c : Nat) : Nat := (x + y + c) % 4294967296
def addHi (x y c : Nat) : Nat := (x + y + c) / 4294967296
def subLo (x y c : Nat) : Nat := (x + 4294967296 + 4294967296 - y - c) % 4294967296
def subHi (x y c : Nat) : Nat := if x < y + c then 1 else 0
def divQ (h l d : Nat) : Nat := (h * 4294967296 + l) / d
def divR (h l d : Nat) : Nat := (h * 4294967296 + l) % d

theorem addLo_lt (x y c : Nat) : addLo x y c < 4294967296 := Nat.mod_lt _ (by omega)
theorem subLo_lt (x y c : Nat) : subLo x y c < 4294967296 := Nat.mod_lt _ (by omega)
theorem subHi_le (x y c : Nat) : subHi x y c ≤ 1 := by unfold subHi; split <;> omega
theorem addHi_le {x y c : Nat} (hx : x < 4294967296) (hy : y < 4294967296) (hc : c ≤ 1) : addHi x y c ≤ 1 := by unfold addHi; omega
theorem add_eq (x y c : Nat) : addLo x y c + 4294967296 * addHi x y c = x + y + c := by unfold addLo addHi; omega
theorem sub_eq {x y c : Nat} (hx : x < 4294967296) (hy : y < 4294967296) (hc : c ≤ 1) : subLo x y c + y + c = x + 4294967296 * subHi x y c := by
  unfold subLo subHi; split <;> omega

/-- After i rounds of plus. -/
def PlusRel (a b o : List Nat) (i c : Nat) : Prop :=
  o.length = a.length + 1 ∧ Lb o ∧ c ≤ 1 ∧ val o + c * 4294967296 ^ i = val (a.take i) + val (b.take i) ∧ ∀ j, i ≤ j → lim o j = 0
theorem PlusRel.start (a b : List Nat) : PlusRel a b (List.replicate (a.length + 1) 0) 0 0 :=
  ⟨by simp, Lb.replicate _ (by omega), by omega, by simp [val, val_zeros], fun j _ => lim_zeros _ _⟩
theorem PlusRel.step {a b o : List Nat} {i c : Nat} (h : PlusRel a b o i c) (ha : Lb a) (hb : Lb b) (hi : i < a.length) :
    PlusRel a b (o.set i (addLo (lim a i) (lim b i) c)) (i + 1) (addHi (lim a i) (lim b i) c) := by
  obtain ⟨h1, h2, h3, h4, h5⟩ := h
  have e0 := add_eq (lim a i) (lim b i) c
  have e1 := val_set (l := o) (k := i) (addLo (lim a i) (lim b i) c) (by omega)
  have e2 := val_take_step a i
  have e3 := val_take_step b i
  have e4 := h5 i (Nat.le_refl _)
  refine ⟨by rw [List.length_set]; exact h1, h2.set _ (addLo_lt _ _ _), addHi_le (ha.getD i) (hb.getD i) h3, ?_, fun j hj => ?_⟩
  · rw [e4] at e1
    rw [e2, e3, Nat.pow_succ]
    generalize addLo (lim a i) (lim b i) c = lo at *
    generalize addHi (lim a i) (lim b i) c = hi at *
    grind
  · rw [lim_set_ne (by omega)]; exact h5 j (by omega)
theorem PlusRel.done {a b o : List Nat} {c : Nat} (h : PlusRel a b o a.length c) (hl : b.length ≤ a.length) :
    val (o.set a.length c) = val a + val b ∧ Lb (o.set a.length c) ∧ (o.set a.length c).length = a.length + 1 := by
  obtain ⟨h1, h2, h3, h4, h5⟩ := h
  have e1 := val_set (l := o) (k := a.length) c (by omega)
  rw [h5 _ (Nat.le_refl _)] at e1
  rw [List.take_length, val_take_ge hl] at h4
  exact ⟨by omega, h2.set _ (by omega), by rw [List.length_set]; exact h1⟩

/-- After i rounds of minus. -/
def MinusRel (a b o : List Nat) (i c : Nat) : Prop :=
  o.length = a.length ∧ Lb o ∧ c ≤ 1 ∧ val o + val (b.take i) = val (a.take i) + c * 4294967296 ^ i ∧ ∀ j, i ≤ j → lim o j = 0
theorem MinusRel.start (a b : List Nat) : MinusRel a b (List.replicate a.length 0) 0 0 :=
  ⟨by simp, Lb.replicate _ (by omega), by omega, by simp [val, val_zeros], fun j _ => lim_zeros _ _⟩
theorem MinusRel.step {a b o : List Nat} {i c : Nat} (h : MinusRel a b o i c) (ha : Lb a) (hb : Lb b) (hi : i < a.length) :
    MinusRel a b (o.set i (subLo (lim a i) (lim b i) c)) (i + 1) (subHi (lim a i) (lim b i) c) := by
  obtain ⟨h1, h2, h3, h4, h5⟩ := h
  have e0 := sub_eq (ha.getD i) (hb.getD i) h3
  have e1 := val_set (l := o) (k := i) (subLo (lim a i) (lim b i) c) (by omega)
  have e2 := val_take_step a i
  have e3 := val_take_step b i
  have e4 := h5 i (Nat.le_refl _)
  refine ⟨by rw [List.length_set]; exact h1, h2.set _ (subLo_lt _ _ _), subHi_le _ _ _, ?_, fun j hj => ?_⟩
  · rw [e4] at e1
    rw [e2, e3, Nat.pow_succ]
    generalize subLo (lim a i) (lim b i) c = lo at *
    generalize subHi (lim a i) (lim b i) c = hi at *
    grind
  · rw [lim_set_ne (by omega)]; exact h5 j (by omega)
theorem MinusRel.done {a b o : List Nat} {c : Nat} (h : MinusRel a b o a.length c) (hl : b.length ≤ a.length) (hle : val b ≤ val a) : val o = val a - val b := by
  obtain ⟨h1, h2, h3, h4, h5⟩ := h
  rw [List.take_length, val_take_ge hl] at h4
  have := val_lt h2
  rw [h1] at this
  rcases Nat.eq_zero_or_pos c with h0 | h0
  · subst h0; omega
  · have : c = 1 := by omega
    subst this; omega

/-- A step of times: what stays and what is carried. -/
def mulLo (c o x y : Nat) : Nat := (c + (o + x * y)) % 4294967296
def mulHi (c o x y : Nat) : Nat := (c + (o + x * y)) / 4294967296
theorem prod_le {x y : Nat} (hx : x < 4294967296) (hy : y < 4294967296) : x * y ≤ 18446744065119617025 := by
  have := Nat.mul_le_mul (Nat.le_of_lt_succ hx) (Nat.le_of_lt_succ hy); omega
theorem mulHi_lt {c o x y : Nat} (hc : c < 4294967296) (ho : o < 4294967296) (hx : x < 4294967296) (hy : y < 4294967296) : mulHi c o x y < 4294967296 := by
  have := prod_le hx hy; unfold mulHi; omega
theorem mulLo_lt (c o x y : Nat) : mulLo c o x y < 4294967296 := Nat.mod_lt _ (by omega)
theorem mul_eq (c o x y : Nat) : mulLo c o x y + 4294967296 * mulHi c o x y = c + (o + x * y) := by unfold mulLo mulHi; omega

/-- After i rows of times. -/
def TimesRel (a b o : List Nat) (i : Nat) : Prop :=
  o.length = a.length + b.length ∧ Lb o ∧ val o = val (a.take i) * val b ∧ ∀ j, i + b.length ≤ j → lim o j = 0
/-- In row i, after k steps, c being carried. -/
def TimesIn (a b o : List Nat) (i k c : Nat) : Prop :=
  o.length = a.length + b.length ∧ Lb o ∧ c < 4294967296 ∧ val o + c * 4294967296 ^ (i + k) = val (a.take i) * val b + lim a i * val (b.take k) * 4294967296 ^ i ∧ ∀ j, i + b.length ≤ j → lim o j = 0
theorem TimesRel.start (a b : List Nat) : TimesRel a b (List.replicate (a.length + b.length) 0) 0 :=
  ⟨by simp, Lb.replicate _ (by omega), by simp [val, val_zeros], fun j _ => lim_zeros _ _⟩
theorem TimesRel.row {a b o : List Nat} {i : Nat} (h : TimesRel a b o i) : TimesIn a b o i 0 0 := by
  obtain ⟨h1, h2, h3, h4⟩ := h
  exact ⟨h1, h2, by omega, by simp [val, h3], h4⟩
theorem TimesIn.step {a b o : List Nat} {i k c : Nat} (h : TimesIn a b o i k c) (ha : Lb a) (hb : Lb b) (hi : i < a.length) (hk : k < b.length) :
    TimesIn a b (o.set (i + k) (mulLo c (lim o (i + k)) (lim a i) (lim b k))) i (k + 1) (mulHi c (lim o (i + k)) (lim a i) (lim b k)) := by
  obtain ⟨h1, h2, h3, h4, h5⟩ := h
  have e0 := mul_eq c (lim o (i + k)) (lim a i) (lim b k)
  have e1 := val_set (l := o) (k := i + k) (mulLo c (lim o (i + k)) (lim a i) (lim b k)) (by omega)
  have e3 := val_take_step b k
  refine ⟨by rw [List.length_set]; exact h1, h2.set _ (mulLo_lt _ _ _ _), mulHi_lt h3 (h2.getD _) (ha.getD _) (hb.getD _), ?_, fun j hj => ?_⟩
  · rw [e3, ← Nat.add_assoc, Nat.pow_succ]
    have e6 : (4294967296 : Nat) ^ (i + k) = 4294967296 ^ i * 4294967296 ^ k := Nat.pow_add _ _ _
    generalize mulLo c (lim o (i + k)) (lim a i) (lim b k) = lo at *
    generalize mulHi c (lim o (i + k)) (lim a i) (lim b k) = hi at *
    generalize val (o.set (i + k) lo) = v' at *
    generalize val (a.take i) * val b = s at *
    generalize (4294967296 : Nat) ^ (i + k) = pik at *
    have e7 : lo * pik + hi * (pik * 4294967296) = c * pik + (lim o (i + k) * pik + lim a i * lim b k * pik) := by
      have := congrArg (· * pik) e0
      grind
    have e8 : lim a i * (val (b.take k) + lim b k * 4294967296 ^ k) * 4294967296 ^ i = lim a i * val (b.take k) * 4294967296 ^ i + lim a i * lim b k * pik := by
      rw [e6]; grind
    rw [e8]
    omega
  · rw [lim_set_ne (by omega)]; exact h5 j hj
theorem TimesIn.done {a b o : List Nat} {i c : Nat} (h : TimesIn a b o i b.length c) (hi : i < a.length) : TimesRel a b (o.set (i + b.length) c) (i + 1) := by
  obtain ⟨h1, h2, h3, h4, h5⟩ := h
  have e1 := val_set (l := o) (k := i + b.length) c (by omega)
  rw [h5 _ (Nat.le_refl _)] at e1
  rw [List.take_length] at h4
  refine ⟨by rw [List.length_set]; exact h1, h2.set _ h3, ?_, fun j hj => ?_⟩
  · rw [val_take_step a i]
    have e8 : (val (a.take i) + lim a i * 4294967296 ^ i) * val b = val (a.take i) * val b + lim a i * val b * 4294967296 ^ i := by grind
    omega
  · rw [lim_set_ne (by omega)]; exact h5 j (by omega)

/-- When short has still to do the i lowest limbs, r being left over. -/
def ShortRel (a q : List Nat) (d i r : Nat) : Prop :=
  q.length = a.length ∧ Lb q ∧ r < d ∧ val q * d + r * 4294967296 ^ i = val (a.drop i) * 4294967296 ^ i ∧ ∀ j, j < i → lim q j = 0
theorem ShortRel.start (a : List Nat) {d : Nat} (hd : 0 < d) : ShortRel a (List.replicate a.length 0) d a.length 0 :=
  ⟨by simp, Lb.replicate _ (by omega), hd, by simp [val, val_zeros], fun j _ => lim_zeros _ _⟩
theorem divQ_lt {h l d : Nat} (hh : h < d) (hl : l < 4294967296) : divQ h l d < 4294967296 := by
  unfold divQ
  rw [Nat.div_lt_iff_lt_mul (by omega)]
  have : (h + 1) * 4294967296 ≤ d * 4294967296 := Nat.mul_le_mul_right _ (by omega)
  rw [Nat.mul_comm 4294967296 d]; omega
theorem divR_lt {h l d : Nat} (hh : h < d) : divR h l d < d := Nat.mod_lt _ (by omega)
theorem div_eq (h l d : Nat) : divQ h l d * d + divR h l d = h * 4294967296 + l := by
  unfold divQ divR; rw [Nat.mul_comm]; exact Nat.div_add_mod _ _
theorem ShortRel.step {a q : List Nat} {d i r : Nat} (h : ShortRel a q d (i + 1) r) (ha : Lb a) (hi : i < a.length) :
    ShortRel a (q.set i (divQ r (lim a i) d)) d i (divR r (lim a i) d) := by
  obtain ⟨h1, h2, h3, h4, h5⟩ := h
  have e0 := div_eq r (lim a i) d
  have e1 := val_set (l := q) (k := i) (divQ r (lim a i) d) (by omega)
  rw [h5 i (by omega)] at e1
  have e2 := val_drop hi
  refine ⟨by rw [List.length_set]; exact h1, h2.set _ (divQ_lt h3 (ha.getD _)), divR_lt h3, ?_, fun j hj => ?_⟩
  · rw [e2, show val (q.set i (divQ r (lim a i) d)) = val q + divQ r (lim a i) d * 4294967296 ^ i from by omega]
    rw [Nat.pow_succ] at h4
    generalize divQ r (lim a i) d = x at *
    generalize divR r (lim a i) d = y at *
    generalize (4294967296 : Nat) ^ i = p at *
    have e7 : x * d * p + y * p = r * (p * 4294967296) + lim a i * p := by
      have := congrArg (· * p) e0
      grind
    have e8 : (val q + x * p) * d + y * p = val q * d + (x * d * p + y * p) := by grind
    have e9 : (lim a i + 4294967296 * val (a.drop (i + 1))) * p = lim a i * p + val (a.drop (i + 1)) * (p * 4294967296) := by grind
    rw [e8, e9]
    omega
  · rw [lim_set_ne (by omega)]; exact h5 j (by omega)
theorem ShortRel.done {a q : List Nat} {d r : Nat} (h : ShortRel a q d 0 r) : val q = val a / d ∧ r = val a % d := by
  obtain ⟨h1, h2, h3, h4, h5⟩ := h
  simp only [Nat.pow_zero, Nat.mul_one, List.drop_zero] at h4
  have e1 := Nat.div_mod_unique (a := val a) (b := d) (c := r) (d := val q) (by omega)
  have := e1.2 ⟨by rw [Nat.mul_comm]; omega, h3⟩
  exact ⟨this.1.symm, this.2.symm⟩

/-- A limb moved: what stays in its place, and what goes into the next one. -/
def shLo (s o x : Nat) : Nat := o + x * 2 ^ s % 4294967296
def shHi (s x : Nat) : Nat := x * 2 ^ s / 4294967296
/-- After i rounds of shifted. -/
def ShRel (a o : List Nat) (s i : Nat) : Prop :=
  o.length = a.length + 1 ∧ Lb o ∧ val o = val (a.take i) * 2 ^ s ∧ lim o i < 2 ^ s ∧ ∀ j, i < j → lim o j = 0
theorem ShRel.start (a : List Nat) (s : Nat) : ShRel a (List.replicate (a.length + 1) 0) s 0 :=
  ⟨by simp, Lb.replicate _ (by omega), by simp [val, val_zeros], by rw [lim_zeros]; exact Nat.pow_pos (by omega), fun j _ => lim_zeros _ _⟩
theorem two_pow_split {s : Nat} (hs : s < 32) : 2 ^ s * 2 ^ (32 - s) = 4294967296 := by rw [← Nat.pow_add, show s + (32 - s) = 32 from by omega]
theorem sh_or {s o x : Nat} (hs : s < 32) (ho : o < 2 ^ s) : o ||| (x * 2 ^ s % 4294967296) = shLo s o x ∧ shLo s o x < 4294967296 := by
  have h1 := two_pow_split hs
  have h2 : x * 2 ^ s % 4294967296 = 2 ^ s * (x % 2 ^ (32 - s)) := by
    rw [← h1, Nat.mul_comm x, Nat.mul_mod_mul_left]
  have h3 : x % 2 ^ (32 - s) < 2 ^ (32 - s) := Nat.mod_lt _ (Nat.pow_pos (by omega))
  constructor
  · unfold shLo
    rw [h2, Nat.or_comm, ← Nat.two_pow_add_eq_or_of_lt ho, Nat.add_comm]
  · unfold shLo
    rw [h2]
    have h4 : 2 ^ s * (x % 2 ^ (32 - s) + 1) ≤ 2 ^ s * 2 ^ (32 - s) := Nat.mul_le_mul_left _ h3
    rw [Nat.mul_add] at h4
    omega
theorem ShRel.step {a o : List Nat} {s i : Nat} (h : ShRel a o s i) (ha : Lb a) (hi : i < a.length) (hs : s < 32) :
    ShRel a ((o.set i (shLo s (lim o i) (lim a i))).set (i + 1) (shHi s (lim a i))) s (i + 1) := by
  obtain ⟨h1, h2, h3, h4, h5⟩ := h
  have hx := ha.getD i
  have b1 := (sh_or (x := lim a i) hs h4).2
  have hp : 0 < 2 ^ s := Nat.pow_pos (by omega)
  have b2 : shHi s (lim a i) < 2 ^ s := by
    unfold shHi
    rw [Nat.div_lt_iff_lt_mul (by omega), Nat.mul_comm]
    exact Nat.mul_lt_mul_of_pos_left hx hp
  have b3 : 2 ^ s ≤ 2147483648 := by
    have := Nat.pow_le_pow_right (n := 2) (by omega) (show s ≤ 31 by omega); omega
  have e1 := val_set (l := o) (k := i) (shLo s (lim o i) (lim a i)) (by omega)
  have e2 := val_set (l := o.set i (shLo s (lim o i) (lim a i))) (k := i + 1) (shHi s (lim a i)) (by rw [List.length_set]; omega)
  rw [lim_set_ne (by omega), h5 (i + 1) (by omega)] at e2
  refine ⟨by rw [List.length_set, List.length_set]; exact h1, (h2.set _ b1).set _ (by omega), ?_, ?_, fun j hj => ?_⟩
  · rw [val_take_step a i]
    have e3 := Nat.mod_add_div (lim a i * 2 ^ s) 4294967296
    unfold shLo shHi at *
    rw [Nat.pow_succ] at e2
    generalize lim a i * 2 ^ s / 4294967296 = hi' at *
    generalize lim a i * 2 ^ s % 4294967296 = lo at *
    have e4 : lo * 4294967296 ^ i + hi' * (4294967296 ^ i * 4294967296) = lim a i * 2 ^ s * 4294967296 ^ i := by
      rw [← e3]; grind
    have e5 : (val (a.take i) + lim a i * 4294967296 ^ i) * 2 ^ s = val (a.take i) * 2 ^ s + lim a i * 2 ^ s * 4294967296 ^ i := by grind
    have e6 : (lim o i + lo) * 4294967296 ^ i = lim o i * 4294967296 ^ i + lo * 4294967296 ^ i := by grind
    omega
  · rw [lim_set_eq (by rw [List.length_set]; omega)]; exact b2
  · rw [lim_set_ne (by omega), lim_set_ne (by omega)]; exact h5 j (by omega)
end Go.Proofs.Ytjjefdkadgkhfaa

namespace Go.Proofs.Ytjjefdkadgkhfaa
open Go.RowKit

/-- After i rounds of Sum. -/
def SumRel (a b o : List Nat) (i c : Nat) : Prop := o.length = i ∧ Lb o ∧ c ≤ 1 ∧ val o + c * 4294967296 ^ i = val (a.take i) + val (b.take i)
theorem SumRel.start (a b : List Nat) : SumRel a b [] 0 0 := ⟨rfl, Lb.nil, by omega, by simp [val]⟩
theorem SumRel.step {a b o : List Nat} {i c : Nat} (h : SumRel a b o i c) (ha : Lb a) (hb : Lb b) : SumRel a b (o ++ [addLo (lim a i) (lim b i) c]) (i + 1) (addHi (lim a i) (lim b i) c) := by
  obtain ⟨h1, h2, h3, h4⟩ := h
  have e0 := add_eq (lim a i) (lim b i) c
  have e2 := val_take_step a i
  have e3 := val_take_step b i
  refine ⟨by simp [h1], h2.append (Lb.cons (addLo_lt _ _ _) Lb.nil), addHi_le (ha.getD i) (hb.getD i) h3, ?_⟩
  rw [val_append, h1, e2, e3, Nat.pow_succ]
  simp only [val]
  generalize addLo (lim a i) (lim b i) c = lo at *
  generalize addHi (lim a i) (lim b i) c = hi at *
  grind
theorem SumRel.done {a b o : List Nat} {n c : Nat} (h : SumRel a b o n c) (ha : a.length ≤ n) (hb : b.length ≤ n) : val (o ++ [c]) = val a + val b ∧ Lb (o ++ [c]) := by
  obtain ⟨h1, h2, h3, h4⟩ := h
  rw [val_take_ge ha, val_take_ge hb] at h4
  refine ⟨?_, h2.append (Lb.cons (by omega) Lb.nil)⟩
  rw [val_append, h1]
  simp only [val]
  grind

theorem Sl.shape' {w : World} {v : Value} {l : List Nat} (h : Sl w v l) : ∃ a cap, v = .slice a l.length cap ∧ l.length ≤ cap := by
  obtain ⟨_, a, cap, h1, h2, _⟩ := h
  exact ⟨a, cap, h1, h2⟩
theorem own_cast {w : World} {base n : Nat} {v : Value} {l : List Nat} {x : Nat} {z : Int} (h : w.ownsRow base 104 1 v n (l.map u32 ++ [.int .u32 z])) (hz : z = (x : Int)) : w.ownsRow base 104 1 v n ((l ++ [x]).map u32) := by
  subst hz
  simpa [u32] using h

set_option maxRecDepth 100000 in
set_option maxHeartbeats 2000000 in
theorem Sum_c (w : World) (va vb : Value) (a b : List Nat) (h : Sl w va a) (k : Sl w vb b) (ha : a.length ≤ 1000000) (hb : b.length ≤ 1000000) :
    Calls Try.prog 95 #[va, vb] w (RetNat w (val a + val b)) := by
  have hs := h
  have ks := k
  obtain ⟨h0, p, cap, rfl, h2, h3, h5, h6⟩ := h
  obtain ⟨k0, q, cap', rfl, k2, k3, k5, k6⟩ := k
  have HS := Lib.hid hs
  have KS := Lib.hid ks
  obtain ⟨i0, hi, hz0, hz1, hz2⟩ := info_parts info32
  have hlm : Hid (maxLen = 9223372036854775807) := rfl
  obtain ⟨m, hm⟩ : ∃ m, m = max a.length b.length := ⟨_, rfl⟩
  have hm1 : a.length ≤ m := by omega
  have hm2 : b.length ≤ m := by omega
  have hm3 : m ≤ 1000000 := by omega
  have hm4 : Hid (m ≤ a.length ∨ m ≤ b.length) := by show _ ∨ _; omega
  have hmx : (if a.length < b.length then ((b.length : Nat) : Int) else ((a.length : Nat) : Int)) = (m : Int) := by split <;> omega
  clear hs ks h5 h6 k5 k6 hm
  go_enter Try.func95, Try.ntmps95
  go_wp2
  go_loopg [5, 6, 7] (m) (fun g o c t wx => ∃ (i x : Nat) (l : List Nat), i ≤ m ∧ g = m - i ∧ x ≤ 1 ∧ c = .int .u64 (x : Int) ∧ t = .int .i64 (i : Int) ∧ wx.ownsRow w.heap.size 104 1 o i (l.map u32) ∧ Hid (SumRel a b l i x) ∧ Below w.heap.size w wx)
  case atStart => exact ⟨0, 0, [], Nat.zero_le _, rfl, by omega, rfl, rfl, World.ownsRow_nil _ _ _ _, SumRel.start a b, Below.refl _ w⟩
  case round =>
    obtain ⟨i, x, l, hile, rfl, hx, rfl, rfl, hown, hrel, hbl⟩ := hrel
    have hsz := hbl.size
    by_cases hlt : i < m
    · have hax := h0.getD i
      have hbx := k0.getD i
      have hnext := hrel.out.step h0 k0
      have HN := Lib.hid hnext
      have hhi := addHi_le hax hbx hx
      have HOWN := Lib.hid hown
      clear hown hnext
      by_cases hla : i < a.length
      · by_cases hlb : i < b.length
        · skip
          obtain ⟨_, _, _, hv, _, _, _, h6⟩ := HS.out
          obtain ⟨rfl, rfl⟩ : p = _ ∧ cap = _ := by simpa using hv
          obtain ⟨b1, o1, rfl, hb1, hc1⟩ := h6 (by omega)
          have hca : wr.cell? ⟨b1, o1 + i, none⟩ = some (.int .u32 ((lim a i : Nat) : Int)) := (hbl.cell (p := ⟨b1, o1 + i, none⟩) hb1).trans (hc1 i hla)
          clear hc1 h6 hv
          obtain ⟨_, _, _, hv, _, _, _, k6⟩ := KS.out
          obtain ⟨rfl, rfl⟩ : q = _ ∧ cap' = _ := by simpa using hv
          obtain ⟨b2, o2, rfl, hb2, hc2⟩ := k6 (by omega)
          have hcb : wr.cell? ⟨b2, o2 + i, none⟩ = some (.int .u32 ((lim b i : Nat) : Int)) := (hbl.cell (p := ⟨b2, o2 + i, none⟩) hb2).trans (hc2 i hlb)
          clear hc2 k6 hv
          have hz1' : ((x : Int) + (lim a i : Nat) + (lim b i : Nat)) % 4294967296 = ((addLo (lim a i) (lim b i) x : Nat) : Int) := by unfold addLo; omega
          have hz2' : ((x : Int) + (lim a i : Nat) + (lim b i : Nat)) / 4294967296 = ((addHi (lim a i) (lim b i) x : Nat) : Int) := by unfold addHi; omega
          go_wp2_with (at_builtin; refine wpList_append_own _ rfl _ _ 28 rfl w.heap.size 104 i0 (.int .u32 0) 1 4 Try.underlying28 hi hz0 hz1 hz2 rfl (by decide) _ _ _ rfl (HOWN.out.alloc _) ⟨wr.heap.size, 0, none⟩ 1 1 [.int .u32 ((addLo (lim a i) (lim b i) x : Nat) : Int)] rfl rfl ?c1 ?c2 ?c3 ?c4 ?c5 ?_)
          case c1 => exact cell_one_new _ _ _
          case c2 => simp [Value.oneCell']
          case c3 => rw [hlm.out]; omega
          case c4 => omega
          case c5 => simp; omega
          intro v' w1 hown' hgrow _
          have hown2 := own_cast hown' rfl
          have hb1 := (hbl.alloc hsz (.cells #[.int .u32 ((addLo (lim a i) (lim b i) x : Nat) : Int)] 104)).grown hgrow (by simp; omega) (fun k hk => (HOWN.out.lt k hk).1)
          have HOWN2 := Lib.hid hown2
          have HB1 := Lib.hid hb1
          clear hown' hown2 hb1 hgrow
          go_wp2
          go_roundg (m - (i + 1))
          case measure => omega
          case rel => exact ⟨i + 1, _, _, by omega, rfl, hhi, rfl, by go_num, HOWN2.out, HN.out, HB1.out⟩
        · have hzb : lim b i = 0 := getD_ge (by omega)
          have HZB := Lib.hid hzb
          clear hzb
          obtain ⟨_, _, _, hv, _, _, _, h6⟩ := HS.out
          obtain ⟨rfl, rfl⟩ : p = _ ∧ cap = _ := by simpa using hv
          obtain ⟨b1, o1, rfl, hb1, hc1⟩ := h6 (by omega)
          have hca : wr.cell? ⟨b1, o1 + i, none⟩ = some (.int .u32 ((lim a i : Nat) : Int)) := (hbl.cell (p := ⟨b1, o1 + i, none⟩) hb1).trans (hc1 i hla)
          clear hc1 h6 hv
          have hz1' : ((x : Int) + (lim a i : Nat)) % 4294967296 = ((addLo (lim a i) (lim b i) x : Nat) : Int) := by have := HZB.out; unfold addLo; omega
          have hz2' : ((x : Int) + (lim a i : Nat)) / 4294967296 = ((addHi (lim a i) (lim b i) x : Nat) : Int) := by have := HZB.out; unfold addHi; omega
          go_wp2_with (at_builtin; refine wpList_append_own _ rfl _ _ 28 rfl w.heap.size 104 i0 (.int .u32 0) 1 4 Try.underlying28 hi hz0 hz1 hz2 rfl (by decide) _ _ _ rfl (HOWN.out.alloc _) ⟨wr.heap.size, 0, none⟩ 1 1 [.int .u32 ((addLo (lim a i) (lim b i) x : Nat) : Int)] rfl rfl ?c1 ?c2 ?c3 ?c4 ?c5 ?_)
          case c1 => exact cell_one_new _ _ _
          case c2 => simp [Value.oneCell']
          case c3 => rw [hlm.out]; omega
          case c4 => omega
          case c5 => simp; omega
          intro v' w1 hown' hgrow _
          have hown2 := own_cast hown' rfl
          have hb1 := (hbl.alloc hsz (.cells #[.int .u32 ((addLo (lim a i) (lim b i) x : Nat) : Int)] 104)).grown hgrow (by simp; omega) (fun k hk => (HOWN.out.lt k hk).1)
          have HOWN2 := Lib.hid hown2
          have HB1 := Lib.hid hb1
          clear hown' hown2 hb1 hgrow
          go_wp2
          go_roundg (m - (i + 1))
          case measure => omega
          case rel => exact ⟨i + 1, _, _, by omega, rfl, hhi, rfl, by go_num, HOWN2.out, HN.out, HB1.out⟩
      · have hlb : i < b.length := by have := hm4.out; omega
        have hza : lim a i = 0 := getD_ge (by omega)
        have HZA := Lib.hid hza
        clear hza
        obtain ⟨_, _, _, hv, _, _, _, k6⟩ := KS.out
        obtain ⟨rfl, rfl⟩ : q = _ ∧ cap' = _ := by simpa using hv
        obtain ⟨b2, o2, rfl, hb2, hc2⟩ := k6 (by omega)
        have hcb : wr.cell? ⟨b2, o2 + i, none⟩ = some (.int .u32 ((lim b i : Nat) : Int)) := (hbl.cell (p := ⟨b2, o2 + i, none⟩) hb2).trans (hc2 i hlb)
        clear hc2 k6 hv
        have hz1' : ((x : Int) + (lim b i : Nat)) % 4294967296 = ((addLo (lim a i) (lim b i) x : Nat) : Int) := by have := HZA.out; unfold addLo; omega
        have hz2' : ((x : Int) + (lim b i : Nat)) / 4294967296 = ((addHi (lim a i) (lim b i) x : Nat) : Int) := by have := HZA.out; unfold addHi; omega
        go_wp2_with (at_builtin; refine wpList_append_own _ rfl _ _ 28 rfl w.heap.size 104 i0 (.int .u32 0) 1 4 Try.underlying28 hi hz0 hz1 hz2 rfl (by decide) _ _ _ rfl (HOWN.out.alloc _) ⟨wr.heap.size, 0, none⟩ 1 1 [.int .u32 ((addLo (lim a i) (lim b i) x : Nat) : Int)] rfl rfl ?c1 ?c2 ?c3 ?c4 ?c5 ?_)
        case c1 => exact cell_one_new _ _ _
        case c2 => simp [Value.oneCell']
        case c3 => rw [hlm.out]; omega
        case c4 => omega
        case c5 => simp; omega
        intro v' w1 hown' hgrow _
        have hown2 := own_cast hown' rfl
        have hb1 := (hbl.alloc hsz (.cells #[.int .u32 ((addLo (lim a i) (lim b i) x : Nat) : Int)] 104)).grown hgrow (by simp; omega) (fun k hk => (HOWN.out.lt k hk).1)
        have HOWN2 := Lib.hid hown2
        have HB1 := Lib.hid hb1
        clear hown' hown2 hb1 hgrow
        go_wp2
        go_roundg (m - (i + 1))
        case measure => omega
        case rel => exact ⟨i + 1, _, _, by omega, rfl, hhi, rfl, by go_num, HOWN2.out, HN.out, HB1.out⟩
    · have hd := hrel.out.done (n := i) (by omega) (by omega)
      have HD1 := Lib.hid hd.1
      have hlb := hd.2
      have HOWN := Lib.hid hown
      clear hd hown
      go_wp2_with (at_builtin; refine wpList_append_own _ rfl _ _ 28 rfl w.heap.size 104 i0 (.int .u32 0) 1 4 Try.underlying28 hi hz0 hz1 hz2 rfl (by decide) _ _ _ rfl (HOWN.out.alloc _) ⟨wr.heap.size, 0, none⟩ 1 1 [.int .u32 (x : Int)] rfl rfl ?c1 ?c2 ?c3 ?c4 ?c5 ?_)
      case c1 => exact cell_one_new _ _ _
      case c2 => simp [Value.oneCell']
      case c3 => rw [hlm.out]; omega
      case c4 => omega
      case c5 => simp; omega
      intro v' w1 hown' hgrow _
      have hown2 := own_cast hown' rfl
      have hs2 := Sl.of_own hown2 hlb
      have HS2 := Lib.hid hs2
      have hb1 := (hbl.alloc hsz (.cells #[.int .u32 (x : Int)] 104)).grown hgrow (by simp; omega) (fun k hk => (HOWN.out.lt k hk).1)
      have HB1 := Lib.hid hb1
      clear hs2 hown2 hown' hb1 hgrow
      go_wp2_with fail
      refine (rtrim_c _ _ _ HS2.out).mono ?_
      rw [HD1.out]
      rintro e w' ⟨⟨a', cap'', hv, rfl, hs'⟩, rfl⟩
      clear hv
      have HS' := Lib.hid hs'
      clear hs'
      go_wp2_with fail
      go_ret
      exact ⟨_, rfl, HS'.out, HB1.out⟩
end Go.Proofs.Ytjjefdkadgkhfaa

namespace Go.Proofs.Ytjjefdkadgkhfaa
open Go.RowKit

theorem tb31 {x : Nat} (h : x < 4294967296) : x.testBit 31 = decide (2147483648 ≤ x) := by
  rw [Nat.testBit_eq_decide_div_mod_eq, Bool.eq_iff_iff]
  simp only [decide_eq_true_eq]
  omega
theorem sub_trick {x y c d : Nat} (hx : x < 4294967296) (hy : y < 4294967296) (hc : c ≤ 1) (hd : d = subLo x y c) :
    ((4294967295 ^^^ x) &&& y ||| (4294967295 ^^^ (x ^^^ y)) &&& d) / 2147483648 = subHi x y c := by
  have hd2 : d < 4294967296 := by rw [hd]; exact Nat.mod_lt _ (by omega)
  have hb : ((4294967295 ^^^ x) &&& y ||| (4294967295 ^^^ (x ^^^ y)) &&& d) < 4294967296 := by
    have h1 : (4294967295 ^^^ x) &&& y < 2 ^ 32 := Nat.and_lt_two_pow _ (by omega)
    have h2 : (4294967295 ^^^ (x ^^^ y)) &&& d < 2 ^ 32 := Nat.and_lt_two_pow _ (by omega)
    have := Nat.or_lt_two_pow h1 h2
    omega
  have ht := tb31 hb
  rw [Nat.testBit_or, Nat.testBit_and, Nat.testBit_and, Nat.testBit_xor, Nat.testBit_xor, Nat.testBit_xor, tb31 hx, tb31 hy, tb31 hd2, tb31 (by omega)] at ht
  generalize ((4294967295 ^^^ x) &&& y ||| (4294967295 ^^^ (x ^^^ y)) &&& d) = z at *
  unfold subHi subLo at *
  by_cases h1 : 2147483648 ≤ x <;> by_cases h2 : 2147483648 ≤ y <;> by_cases h3 : 2147483648 ≤ d <;> simp [h1, h2, h3] at ht <;> (split <;> omega)

set_option maxHeartbeats 400000 in
theorem add32_c (x y c : Nat) (hx : x < 4294967296) (hy : y < 4294967296) (hc : c ≤ 1) (w : World) :
    Calls Try.prog 81 #[.int .u32 (x : Int), .int .u32 (y : Int), .int .u32 (c : Int)] w
      fun e w' => e = .returned (.tuple #[.int .u32 (addLo x y c : Int), .int .u32 (addHi x y c : Int)]) ∧ w = w' := by
  have e1 : (addLo x y c : Int) = ((x : Int) + y + c) % 4294967296 := by unfold addLo; omega
  have e2 : (addHi x y c : Int) = ((x : Int) + y + c) / 4294967296 := by unfold addHi; omega
  rw [e1, e2]
  clear e1 e2
  go_enter Try.func81, Try.ntmps81
  go_wp2
  go_ret2
  exact ⟨rfl, rfl⟩

set_option maxHeartbeats 400000 in
theorem sub32_c (x y c : Nat) (hx : x < 4294967296) (hy : y < 4294967296) (hc : c ≤ 1) (w : World) :
    Calls Try.prog 80 #[.int .u32 (x : Int), .int .u32 (y : Int), .int .u32 (c : Int)] w
      fun e w' => e = .returned (.tuple #[.int .u32 (subLo x y c : Int), .int .u32 (subHi x y c : Int)]) ∧ w = w' := by
  have e1 : (subLo x y c : Int) = ((x : Int) - y - c) % 4294967296 := by unfold subLo; omega
  have hd2 : subLo x y c < 4294967296 := Nat.mod_lt _ (by omega)
  have hx1 : 4294967295 ^^^ x < 2 ^ 32 := Nat.xor_lt_two_pow (by omega) (by omega)
  have hx2 : x ^^^ y < 2 ^ 32 := Nat.xor_lt_two_pow (by omega) (by omega)
  have hx3 : 4294967295 ^^^ (x ^^^ y) < 2 ^ 32 := Nat.xor_lt_two_pow (by omega) (by omega)
  have hx4 : (4294967295 ^^^ x) &&& y < 2 ^ 32 := Nat.and_lt_two_pow _ (by omega)
  have hx5 : (4294967295 ^^^ (x ^^^ y)) &&& subLo x y c < 2 ^ 32 := Nat.and_lt_two_pow _ (by omega)
  have e2 : (subHi x y c : Int) = bits .or .u32 (bits .and .u32 (bits .xor .u32 IntKind.u32.max x) y) (bits .and .u32 (bits .xor .u32 IntKind.u32.max (bits .xor .u32 x y)) (((x : Int) - y - c) % 4294967296)) / 2147483648 := by
    have hm : IntKind.u32.max = ((4294967295 : Nat) : Int) := by decide
    rw [← e1, hm, u32_xor_nat _ _ (by omega) hx, u32_and_nat _ _ (by omega) hy, u32_xor_nat x y hx hy, u32_xor_nat _ _ (by omega) (by omega), u32_and_nat _ _ (by omega) hd2, u32_or_nat _ _ (by omega) (by omega), ← sub_trick hx hy hc rfl]
    rfl
  rw [e2, e1]
  clear e1 e2 hd2 hx1 hx2 hx3 hx4 hx5
  go_enter Try.func80, Try.ntmps80
  go_wp2
  go_ret2
  exact ⟨rfl, rfl⟩

set_option maxHeartbeats 400000 in
theorem div32_c (h l d : Nat) (hh : h < d) (hl : l < 4294967296) (hd : d < 4294967296) (w : World) :
    Calls Try.prog 89 #[.int .u32 (h : Int), .int .u32 (l : Int), .int .u32 (d : Int)] w
      fun e w' => e = .returned (.tuple #[.int .u32 (divQ h l d : Int), .int .u32 (divR h l d : Int)]) ∧ ∃ n, w' = w.drewN n := by
  have hd0 : ((d : Int) != 0) = true := by rw [bne_iff_ne]; omega
  have hdh : decide ((d : Int) ≤ h) = false := by simp; omega
  have hd1 : 1 ≤ d := by omega
  have hor : bits .or .u64 ((h : Int) * 4294967296) l = ((h * 4294967296 + l : Nat) : Int) := by
    have e : (h : Int) * 4294967296 = ((h * 4294967296 : Nat) : Int) := by omega
    rw [e, u64_or_nat _ _ (by omega) (by omega), nat_join 32 _ _ (by omega) (by omega)]
  have hq : divQ h l d < 4294967296 := by
    unfold divQ
    rw [Nat.div_lt_iff_lt_mul (by omega)]
    have : (h + 1) * 4294967296 ≤ d * 4294967296 := Nat.mul_le_mul_right _ (by omega)
    rw [Nat.mul_comm 4294967296 d]; omega
  have hr : divR h l d < d := Nat.mod_lt _ (by omega)
  have e1 : (divQ h l d : Int) = IntKind.u64.wrap ((bits .or .u64 ((h : Int) * 4294967296) l).tdiv d) % 4294967296 := by
    have e : (((h * 4294967296 + l : Nat) : Int)).tdiv (d : Int) = (divQ h l d : Int) := by rw [divQ, Int.natCast_ediv, Int.tdiv_eq_ediv_of_nonneg (by omega)]
    rw [hor, e, IntKind.wrap_u64]; omega
  have e2 : (divR h l d : Int) = (bits .or .u64 ((h : Int) * 4294967296) l).tmod d % 4294967296 := by
    have e : (((h * 4294967296 + l : Nat) : Int)).tmod (d : Int) = (divR h l d : Int) := by rw [divR, Int.natCast_emod, Int.tmod_eq_emod_of_nonneg (by omega)]
    rw [hor, e]; omega
  rw [e1, e2]
  clear e1 e2 hor hq hr
  go_enter Try.func89, Try.ntmps89
  go_wp2
  go_quiet (fail)
  go_wp2
  go_ret2
  exact ⟨rfl, _, rfl⟩
end Go.Proofs.Ytjjefdkadgkhfaa
