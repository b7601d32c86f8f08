/- Walks of package tails: Upper.
   Walks of package tails: Upper, where it is refused; Upper.
   Walks of the reference: trim, From, ValidNat, Compare, SameNat.
   Walks of the reference: Sum, Diff, Product. -/
import Derived.Test.YtppehiajocgiiaaK14
import Derived.Test.YtppehiajocgiiaaK01
import Derived.Deep.LoopGhost
import Derived.Test.YtppehiajocgiiaaK02
import Derived.Maps.AppendAt
import Derived.OwnWalk
set_option linter.unusedVariables false
namespace Go.Proofs.Ytppehiajocgiiaa
open Go.RowKit

/-- Where Upper's test first holds, as sort.Search finds it. -/
def UpR (n k x y den m : Nat) : Prop := m ≤ den + 1 ∧ (m = 0 ∨ ¬ UpB n k x y den (m - 1)) ∧ (m = den + 1 ∨ UpB n k x y den m)
/-- What Upper returns. -/
def upperF (n k : Int) (b : F) (den : Int) (r : Int × Int) : Prop :=
  if fracE b = 0 then
    (if trialsB n k (IntKind.i64.wrap (n + 1)) = true ∧ 1 ≤ den ∧ den ≤ 1000 then
      ∃ m : Nat, UpR n.toNat k.toNat (val b.num) (val b.den) den.toNat m ∧ r = if den < (m : Int) then (0, 7) else ((m : Int), 0)
    else r = (0, 2))
  else r = (0, fracE b)

theorem start4 (w : World) (n k den : Int) (A : Array Value) : ∃ W0, W0 = (((w.alloc (.cells #[.int .i64 n] 3)).alloc (.cells #[.int .i64 k] 3)).alloc (.cells A 25)).alloc (.cells #[.int .i64 den] 3) ∧
    Box W0 w.heap.size #[.int .i64 n] 3 ∧ Box W0 (w.heap.size + 1) #[.int .i64 k] 3 ∧ Box W0 (w.heap.size + 1 + 1) A 25 ∧ Box W0 (w.heap.size + 1 + 1 + 1) #[.int .i64 den] 3 ∧ W0.heap.size = w.heap.size + 4 ∧ Below w.heap.size w W0 :=
  ⟨_, rfl, fourA rfl, fourB rfl, fourC rfl, fourD rfl, by simp, held_alloc (held_alloc (held_alloc (held_alloc (Below.refl _ w))))⟩

set_option maxRecDepth 100000 in
set_option maxHeartbeats 4000000 in
theorem tUpper_good (w : World) (n k x y den : Nat) (v : Value) (h : IsF w v (fr false x y)) (hn : n ≤ 64) (hk : k ≤ n + 1) (hd0 : 1 ≤ den) (hd1 : den ≤ 1000) (hok : Ok false x y) (hf : fracE (fr false x y) = 0) :
    Calls Try.prog 23 #[.int .i64 (n : Int), .int .i64 (k : Int), v, .int .i64 (den : Int)] w fun e w' => ∃ m : Nat, UpR n k x y den m ∧ e = .returned (.tuple #[.int .i64 (if (den : Int) < (m : Int) then 0 else (m : Int)), .int .i64 (if (den : Int) < (m : Int) then 7 else 0)]) ∧ Below w.heap.size w w' := by
  have HX := h
  obtain ⟨va, vb, rfl, h1, h2⟩ := h
  obtain ⟨p, cp, rfl, _, _⟩ := h1.shape
  obtain ⟨q, cq, rfl, _, _⟩ := h2.shape
  obtain ⟨W0, hW, bN, bK, bB, bD, hsz, hb0⟩ := start4 w (n : Int) (k : Int) (den : Int) #[.bool (fr false x y).neg, .slice p (fr false x y).num.length cp, .slice q (fr false x y).den.length cq]
  obtain ⟨c0, c1, c2⟩ := bB.cells3
  have HI := Lib.hid (HX.after hb0)
  have HB0 := Lib.hid hb0
  have BN := Lib.hid bN
  have BK := Lib.hid bK
  have BB := Lib.hid bB
  have BD := Lib.hid bD
  have HF := Lib.hid hf
  have HOK := Lib.hid hok
  have ht : Hid (trialsB (n : Int) (k : Int) ((n : Int) + 1) = true) := trialsB_iff.2 ⟨by omega, by omega, by omega, by omega⟩
  clear HX bN bK bB bD hb0 h1 h2 hf hok
  go_enter Try.func23, Try.ntmps23
  go_upto_region 1 with fail
  rw [← hW]
  clear hW
  go_wp2_with fail
  refine (fraction_c _ _ (fr false x y) HI.out).mono ?_
  rw [HF.out]
  rintro e w1 ⟨rfl, hb1⟩
  have n0 : w1.cell? ⟨w.heap.size, 0, none⟩ = some (.int .i64 (n : Int)) := (BN.out.after hb1).cell 0
  have k0 : w1.cell? ⟨w.heap.size + 1, 0, none⟩ = some (.int .i64 (k : Int)) := (BK.out.after hb1).cell 0
  have d0 : w1.cell? ⟨w.heap.size + 1 + 1 + 1, 0, none⟩ = some (.int .i64 (den : Int)) := (BD.out.after hb1).cell 0
  have BB1 := Lib.hid (BB.out.after hb1)
  have HI1 := Lib.hid (HI.out.after hb1)
  have HK1 := Lib.hid (HB0.out.trans (hb1.mono HB0.out.size))
  clear hb1 c0 c1 c2
  go_wp2_with fail
  refine (ttrials_c _ _ _ _).mono ?_
  rw [ht.out]
  rintro e w' ⟨rfl, rfl⟩
  have HV : Hid (VarF w' (w.heap.size + 1 + 1) (fr false x y)) := by
    obtain ⟨_, i1, i2⟩ := HI1.out.parts
    exact ⟨_, _, BB1.out, i1, i2⟩
  have N0 := Lib.hid n0
  have K0 := Lib.hid k0
  have D0 := Lib.hid d0
  go_wp2_with fail
  refine (search_t w' (den + 1) _ (w.heap.size + 1 + 1 + 1) w.heap.size (w.heap.size + 1 + 1) (w.heap.size + 1) (UpB n k x y den) rfl (by omega) (fun W j hb hj => upper1_t W j n k x y den _ _ _ _ (keep_cell hb D0.out) (keep_cell hb N0.out) (HV.out.after hb) (keep_cell hb K0.out) (by omega) (by omega) hd1 hn (by omega) HOK.out)).mono ?_
  rintro e w2 ⟨r, rfl, hr, hr1, hr2, hb2⟩
  have d1 := keep_cell hb2 d0
  have HR : Hid (UpR n k x y den r) := ⟨hr, hr1, hr2⟩
  have HF2 := Lib.hid (HK1.out.trans (hb2.mono HK1.out.size))
  clear hr1 hr2 hb2 n0 k0 d0
  by_cases hlt : (den : Int) < (r : Int)
  · have HL := Lib.hid hlt
    go_wp2_with fail
    go_ret2
    exact ⟨r, HR.out, by rw [if_pos HL.out, if_pos HL.out]; rfl, HF2.out⟩
  · have HL := Lib.hid hlt
    go_wp2_with fail
    go_ret2
    exact ⟨r, HR.out, by rw [if_neg (Int.not_lt.2 HL.out), if_neg (Int.not_lt.2 HL.out)]; rfl, HF2.out⟩

set_option maxRecDepth 100000 in
set_option maxHeartbeats 4000000 in
theorem tUpper_frac (w : World) (n k den : Int) (X : F) (v : Value) (h : IsF w v X) (r : Int) (hf : fracE X = r) (hr0 : r ≠ 0) :
    Calls Try.prog 23 #[.int .i64 n, .int .i64 k, v, .int .i64 den] w fun e w' => e = .returned (.tuple #[.int .i64 0, .int .i64 r]) ∧ Below w.heap.size w w' := by
  have hcs := fracE_cases X
  rw [hf] at hcs
  have hrp : 0 < r := by omega
  have HX := h
  obtain ⟨va, vb, rfl, h1, h2⟩ := h
  obtain ⟨W0, hW, bN, bK, bB, bD, hsz, hb0⟩ := start4 w n k den #[.bool X.neg, va, vb]
  obtain ⟨c0, c1, c2⟩ := bB.cells3
  have HI := Lib.hid (HX.after hb0)
  have HB0 := Lib.hid hb0
  have HF := Lib.hid hf
  clear HX bN bK bB bD hb0 h1 h2 hf hcs
  go_enter Try.func23, Try.ntmps23
  go_upto_region 1 with fail
  rw [← hW]
  clear hW
  go_wp2_with fail
  refine (fraction_c _ _ X HI.out).mono ?_
  rw [HF.out]
  rintro e w1 ⟨rfl, hb1⟩
  have HK1 := Lib.hid (HB0.out.trans (hb1.mono HB0.out.size))
  clear hb1
  go_wp2_with fail
  go_ret2
  exact ⟨rfl, HK1.out⟩
end Go.Proofs.Ytppehiajocgiiaa

namespace Go.Proofs.Ytppehiajocgiiaa
open Go.RowKit

set_option maxRecDepth 100000 in
set_option maxHeartbeats 4000000 in
theorem tUpper_range (w : World) (n k den : Int) (X : F) (v : Value) (h : IsF w v X) (hf : fracE X = 0) (hno : ¬ (trialsB n k (IntKind.i64.wrap (n + 1)) = true ∧ 1 ≤ den ∧ den ≤ 1000)) :
    Calls Try.prog 23 #[.int .i64 n, .int .i64 k, v, .int .i64 den] w fun e w' => e = .returned (.tuple #[.int .i64 0, .int .i64 2]) ∧ Below w.heap.size w w' := by
  have HX := h
  obtain ⟨va, vb, rfl, h1, h2⟩ := h
  obtain ⟨W0, hW, bN, bK, bB, bD, hsz, hb0⟩ := start4 w n k den #[.bool X.neg, va, vb]
  obtain ⟨c0, c1, c2⟩ := bB.cells3
  have HI := Lib.hid (HX.after hb0)
  have HB0 := Lib.hid hb0
  have BN := Lib.hid bN
  have BK := Lib.hid bK
  have BD := Lib.hid bD
  have HF := Lib.hid hf
  have key : ∀ t : Bool, trialsB n k (IntKind.i64.wrap (n + 1)) = t → Calls Try.prog 23 #[.int .i64 n, .int .i64 k, .agg #[.bool X.neg, va, vb], .int .i64 den] w fun e w' => e = .returned (.tuple #[.int .i64 0, .int .i64 2]) ∧ Below w.heap.size w w' := by
    intro t ht
    have HT := Lib.hid (show trialsB n k (wrap64 (n + 1)) = t from by rw [show wrap64 (n + 1) = IntKind.i64.wrap (n + 1) from by rw [IntKind.wrap_i64]; unfold wrap64; rfl]; exact ht)
    have hcase : t = false ∨ (t = true ∧ den < 1) ∨ (t = true ∧ 1 ≤ den ∧ 1000 < den) := by
      rw [ht] at hno
      cases t
      · exact .inl rfl
      · by_cases h1 : den < 1
        · exact .inr (.inl ⟨rfl, h1⟩)
        · exact .inr (.inr ⟨rfl, by omega, by
            by_cases h2 : den ≤ 1000
            · exact absurd ⟨rfl, by omega, h2⟩ hno
            · omega⟩)
    clear HX bN bK bB bD hb0 h1 h2 hf hno ht
    rcases hcase with rfl | ⟨rfl, hd⟩ | ⟨rfl, hd1, hd⟩
    all_goals
      go_enter Try.func23, Try.ntmps23
      go_upto_region 1 with fail
      rw [← hW]
      clear hW
      go_wp2_with fail
      refine (fraction_c _ _ X HI.out).mono ?_
      rw [HF.out]
      rintro e w1 ⟨rfl, hb1⟩
      have n0 : w1.cell? ⟨w.heap.size, 0, none⟩ = some (.int .i64 n) := (BN.out.after hb1).cell 0
      have k0 : w1.cell? ⟨w.heap.size + 1, 0, none⟩ = some (.int .i64 k) := (BK.out.after hb1).cell 0
      have d0 : w1.cell? ⟨w.heap.size + 1 + 1 + 1, 0, none⟩ = some (.int .i64 den) := (BD.out.after hb1).cell 0
      have HK1 := Lib.hid (HB0.out.trans (hb1.mono HB0.out.size))
      clear hb1 c0 c1 c2
      go_wp2_with fail
      refine (ttrials_c _ _ _ _).mono ?_
      rw [HT.out]
      rintro e w' ⟨rfl, rfl⟩
      go_wp2_with fail
      go_ret2
      exact ⟨rfl, HK1.out⟩
  exact key _ rfl

theorem tUpper_c (w : World) (n k den : Int) (X : F) (v : Value) (h : IsF w v X) :
    Calls Try.prog 23 #[.int .i64 n, .int .i64 k, v, .int .i64 den] w fun e w' => ∃ r : Int × Int, e = .returned (.tuple #[.int .i64 r.1, .int .i64 r.2]) ∧ upperF n k X den r ∧ Below w.heap.size w w' := by
  by_cases hf : fracE X = 0
  · by_cases hc : trialsB n k (IntKind.i64.wrap (n + 1)) = true ∧ 1 ≤ den ∧ den ≤ 1000
    · obtain ⟨x, y, rfl, hok, hxy, e1, e2⟩ := frac_fr hf
      obtain ⟨t1, t2, t3, t4⟩ := trialsB_iff.1 hc.1
      rw [wrap_in (by omega) (by omega)] at t4
      obtain ⟨N, rfl⟩ : ∃ N : Nat, n = N := ⟨n.toNat, by omega⟩
      obtain ⟨K, rfl⟩ : ∃ K : Nat, k = K := ⟨k.toNat, by omega⟩
      obtain ⟨D, rfl⟩ : ∃ D : Nat, den = D := ⟨den.toNat, by omega⟩
      refine (tUpper_good w N K x y D v h (by omega) (by omega) (by omega) (by omega) hok hf).mono ?_
      rintro e w' ⟨m, hm, rfl, hb⟩
      refine ⟨if (D : Int) < (m : Int) then (0, 7) else ((m : Int), 0), ?_, ?_, hb⟩
      · by_cases hl : (D : Int) < (m : Int)
        · rw [if_pos hl, if_pos hl, if_pos hl]
        · rw [if_neg hl, if_neg hl, if_neg hl]
      · unfold upperF
        rw [if_pos hf, if_pos hc, e1, e2]
        exact ⟨m, by simpa using hm, rfl⟩
    · refine (tUpper_range w n k den X v h hf hc).mono ?_
      rintro e w' ⟨rfl, hb⟩
      refine ⟨(0, 2), rfl, ?_, hb⟩
      unfold upperF
      rw [if_pos hf, if_neg hc]
  · refine (tUpper_frac w n k den X v h (fracE X) rfl hf).mono ?_
    rintro e w' ⟨rfl, hb⟩
    refine ⟨(0, fracE X), rfl, ?_, hb⟩
    unfold upperF
    rw [if_neg hf]
end Go.Proofs.Ytppehiajocgiiaa

namespace Go.Proofs.Ytppehiajocgiiaa
open Go.RowKit

theorem ex_drew {w w1 : World} {n : Nat} (h : ∃ k, w1 = w.drewN k) : ∃ k, w1.drewN n = w.drewN k := by
  obtain ⟨k, rfl⟩ := h
  exact ⟨_, World.drewN_drewN _ _ _⟩

set_option maxHeartbeats 400000 in
theorem rtrim_some (b off n cap : Nat) (l : List Nat) (w : World) (hn : n ≤ cap) (hcap : cap ≤ 9223372036854775807)
    (hc : ∀ i, i < n → w.cell? ⟨b, off + i, none⟩ = some (.int .u32 ((lim l i : Nat) : Int))) :
    Calls Try.prog 96 #[.slice (some ⟨b, off, none⟩) n cap] w fun e w' => e = .returned (.slice (some ⟨b, off, none⟩) (tlen (fun i => lim l i) n) cap) ∧ w = w' := by
  go_enter Try.func96, Try.ntmps96
  go_wp2
  go_loop [0] (fun t => ∃ k : Nat, k ≤ n ∧ t = .slice (some ⟨b, off, none⟩) k cap ∧ Hid (tlen (fun i => lim l i) n = tlen (fun i => lim l i) k)) (fun t => match t with | .slice _ k _ => k | _ => 0)
  case atStart => exact ⟨n, Nat.le_refl _, rfl, rfl⟩
  case round =>
    obtain ⟨k, hk, rfl, hrel⟩ := hrel
    have hck : 0 < k → w.cell? ⟨b, off + (k - 1), none⟩ = some (.int .u32 ((lim l (k - 1) : Nat) : Int)) := fun _ => hc (k - 1) (by omega)
    clear hc
    go_wp2
    · go_round
      case rel => exact ⟨k - 1, by omega, rfl, hrel.out.trans (tlen_skip (by omega) (by simp_all))⟩
      case measure => simp; omega
    · go_ret
      exact ⟨by rw [hrel.out, tlen_stop (.inl (by simp_all))]; rfl, rfl⟩
    · go_ret
      exact ⟨by rw [hrel.out, tlen_stop (.inr (by omega))]; rfl, rfl⟩

theorem rtrim_c (w : World) (v : Value) (l : List Nat) (h : Sl w v l) :
    Calls Try.prog 96 #[v] w fun e w' => (∃ a cap, v = .slice a l.length cap ∧ e = .returned (.slice a (limbs (val l)).length cap) ∧ Sl w (.slice a (limbs (val l)).length cap) (limbs (val l))) ∧ w = w' := by
  obtain ⟨h0, a, cap, rfl, h2, h3, h5, h6⟩ := h
  have hs : Sl w (.slice a l.length cap) l := ⟨h0, a, cap, rfl, h2, h3, h5, h6⟩
  have hf := hs.front (limbs (val l)).length (limbs_len_le h0)
  rw [take_limbs h0] at hf
  rcases Nat.eq_zero_or_pos l.length with hl | hl
  · have hl' : l = [] := List.length_eq_zero_iff.1 hl
    subst hl'
    have e0 : (limbs (val [])).length = 0 := by simp [val, limbs_zero]
    refine Calls.mono (R := fun e w' => e = .returned (.slice a 0 cap) ∧ w = w') ?_ (fun e w' h => ⟨⟨a, cap, rfl, by rw [e0]; exact h.1, hf⟩, h.2⟩)
    clear hf hs h6 h0 e0
    go_enter Try.func96, Try.ntmps96
    go_wp2
    refine wp_loop_once ?_
    go_wp2
    go_ret
    exact ⟨rfl, rfl⟩
  · obtain ⟨b, off, rfl, hlt, hc⟩ := h6 hl
    refine (rtrim_some b off l.length cap l w h2 h3 hc).mono ?_
    rintro e w' ⟨rfl, rfl⟩
    have := tlen_val h0
    exact ⟨⟨_, cap, rfl, by rw [this], hf⟩, rfl⟩

set_option maxHeartbeats 400000 in
theorem From_c (n : Nat) (hn : n < 18446744073709551616) (w : World) :
    Calls Try.prog 74 #[.int .u64 (n : Int)] w (RetNat w n) := by
  go_enter Try.func74, Try.ntmps74
  go_wp2_with fail
  have hr := Row32.lit2 w (n % 4294967296) (n / 4294967296) ((n : Int) % 4294967296) ((n : Int) / 4294967296) (by omega) (by omega)
  have hs := Sl.of_row (cap := 2) hr (Lb.cons (by omega) (Lb.cons (by omega) Lb.nil)) (by simp) (by omega)
  have hv : val [n % 4294967296, n / 4294967296] = n := by simp only [val]; omega
  refine (rtrim_c _ _ _ hs).mono ?_
  rw [hv]
  rintro e w' ⟨⟨a, cap, _, rfl, hs'⟩, rfl⟩
  clear hs hv hr
  have HS := Lib.hid hs'
  clear hs'
  go_wp2_with fail
  go_ret
  exact ⟨_, rfl, HS.out, (Below.refl _ w).alloc (Nat.le_refl _) _⟩
theorem From_i (z : Int) (n : Nat) (hz : z = n) (hn : n < 18446744073709551616) (w : World) :
    Calls Try.prog 74 #[.int .u64 z] w (RetNat w n) := by
  subst hz; exact From_c n hn w

/-- A list of limbs is its number's own just where it is empty or its last limb is not 0. -/
theorem canon_iff {l : List Nat} (h : Lb l) : Canon l ↔ l.length = 0 ∨ lim l (l.length - 1) ≠ 0 := by
  constructor
  · intro hc
    rcases Nat.eq_zero_or_pos (val l) with h0 | h0
    · left; unfold Canon at hc; rw [hc, h0, limbs_zero]; rfl
    · right
      have := limbs_last h0
      unfold Canon at hc
      rw [← hc] at this; exact this
  · intro hc
    apply canon_of_len h
    rw [← tlen_val h]
    apply tlen_stop
    rcases hc with hc | hc
    · right; exact hc
    · left; exact hc

set_option maxHeartbeats 400000 in
theorem ValidNat_c (w : World) (v : Value) (l : List Nat) (h : Sl w v l) :
    Calls Try.prog 100 #[v] w (RetB w (l.length ≤ 32 ∧ Canon l)) := by
  obtain ⟨h0, a, cap, rfl, h2, h3, h5, h6⟩ := h
  have hcn := Lib.hid (canon_iff h0)
  by_cases hl : l.length ≤ 32
  · rcases Nat.lt_or_ge 0 l.length with hp | hp
    · obtain ⟨b, off, rfl, _, hc⟩ := h6 hp
      have hc0 := hc (l.length - 1) (by omega)
      have hlx := h0.getD (l.length - 1)
      clear hc h6 h5
      have HL := Lib.hid hl
      generalize lim l (l.length - 1) = z at *
      generalize l.length = n at *
      have hne : ((n : Int) == 0) = false := by rw [beq_eq_false_iff_ne]; omega
      rcases Nat.lt_or_ge 0 z with hz | hz
      · have hzb : ((z : Int) != 0) = true := by rw [bne_iff_ne]; omega
        go_enter Try.func100, Try.ntmps100
        go_wp2
        go_ret
        refine ⟨true, rfl, ?_, 0, rfl⟩
        rw [hcn.out]
        simp only [true_iff]
        exact ⟨HL.out, .inr (by omega)⟩
      · obtain rfl : z = 0 := by omega
        go_enter Try.func100, Try.ntmps100
        go_wp2
        go_ret
        refine ⟨false, rfl, ?_, 0, rfl⟩
        rw [hcn.out]
        simp only [Bool.false_eq_true, false_iff]
        rintro ⟨_, h | h⟩
        · omega
        · exact h rfl
    · have e : l = [] := List.length_eq_zero_iff.1 (by omega)
      subst e
      have hcc : Hid (Canon ([] : List Nat)) := by show Canon _; unfold Canon; simp [val, limbs_zero]
      clear h6 h5 hcn hl hp
      simp only [List.length_nil]
      go_enter Try.func100, Try.ntmps100
      go_wp2
      go_ret
      exact ⟨true, rfl, by simp [hcc.out], 0, rfl⟩
  · clear h6 h5
    go_enter Try.func100, Try.ntmps100
    go_wp2
    go_ret
    exact ⟨false, rfl, by simp, 0, rfl⟩

set_option maxHeartbeats 400000 in
theorem rcmp_far (a b : Option Addr) (n m c d : Nat) (w : World) (hn : n ≤ 9223372036854775807) (hm : m ≤ 9223372036854775807) (hne : n ≠ m) :
    Calls Try.prog 39 #[.slice a n c, .slice b m d] w fun e w' => e = .returned (.int .i64 (if n < m then -1 else 1)) ∧ w = w' := by
  by_cases hlt : n < m
  · rw [if_pos hlt]
    go_enter Try.func39, Try.ntmps39
    go_wp2
    go_ret
    exact ⟨rfl, rfl⟩
  · rw [if_neg hlt]
    go_enter Try.func39, Try.ntmps39
    go_wp2
    go_ret
    exact ⟨rfl, rfl⟩

set_option maxHeartbeats 400000 in
theorem rcmp_none (a b : Option Addr) (c d : Nat) (w : World) :
    Calls Try.prog 39 #[.slice a 0 c, .slice b 0 d] w fun e w' => e = .returned (.int .i64 0) ∧ w = w' := by
  go_enter Try.func39, Try.ntmps39
  go_wp2
  refine wp_loop_once ?_
  go_wp2
  go_ret
  exact ⟨rfl, rfl⟩

theorem cmpTop_lt' {l m : List Nat} {k : Nat} (h : lim l k < lim m k) : cmpTop l m (k + 1) = -1 := by rw [cmpTop, if_pos h]
theorem cmpTop_gt' {l m : List Nat} {k : Nat} (h : lim m k < lim l k) : cmpTop l m (k + 1) = 1 := by rw [cmpTop, if_neg (by omega), if_pos h]
theorem cmpTop_eq' {l m : List Nat} {k : Nat} (h : lim l k = lim m k) : cmpTop l m (k + 1) = cmpTop l m k := by rw [cmpTop, if_neg (by omega), if_neg (by omega)]

set_option maxRecDepth 100000 in
set_option maxHeartbeats 1000000 in
theorem rcmp_same (b off b' off' n c d : Nat) (l m : List Nat) (w : World) (hn : n ≤ 9223372036854775807) (hpos : 0 < n)
    (hc : ∀ i, i < n → w.cell? ⟨b, off + i, none⟩ = some (.int .u32 ((lim l i : Nat) : Int)))
    (hd : ∀ i, i < n → w.cell? ⟨b', off' + i, none⟩ = some (.int .u32 ((lim m i : Nat) : Int))) :
    Calls Try.prog 39 #[.slice (some ⟨b, off, none⟩) n c, .slice (some ⟨b', off', none⟩) n d] w
      fun e w' => e = .returned (.int .i64 (cmpTop l m n)) ∧ ∃ k, w' = w.drewN k := by
  go_enter Try.func39, Try.ntmps39
  go_wp2
  go_loopg [5] n (fun g t wr => g ≤ n ∧ t = .int .i64 ((g : Int) - 1) ∧ Hid (cmpTop l m n = cmpTop l m g) ∧ Hid (∃ q, wr = w.drewN q))
  case atStart => exact ⟨Nat.le_refl _, rfl, rfl, ⟨0, rfl⟩⟩
  case round =>
    obtain ⟨hk, rfl, hrel, hw⟩ := hrel
    obtain ⟨q, rfl⟩ := hw.out
    clear hw
    rcases Nat.eq_zero_or_pos gk with hz | hp
    · subst hz
      clear hc hd
      go_wp2
      go_ret
      refine ⟨?_, _, rfl⟩
      rw [hrel.out]; rfl
    · obtain ⟨k, rfl⟩ : ∃ k, gk = k + 1 := ⟨gk - 1, by omega⟩
      have em : ((k + 1 : Nat) : Int) - 1 = (k : Int) := by omega
      rw [em]
      have h1 : w.cell? ⟨b, off + k, none⟩ = some (.int .u32 ((lim l k : Nat) : Int)) := hc _ (by omega)
      have h2 : w.cell? ⟨b', off' + k, none⟩ = some (.int .u32 ((lim m k : Nat) : Int)) := hd _ (by omega)
      clear hc hd em
      have hz1 : (0 : Int) ≤ (k : Int) := by omega
      have hz2 : (k : Int) < n := by omega
      go_wp2
      go_quiet (fail)
      go_wp2
      · go_ret
        refine ⟨?_, ex_drew ⟨q, rfl⟩⟩
        rw [hrel.out, cmpTop_lt' (by assumption)]; rfl
      · go_quiet (fail)
        go_wp2
        · go_ret
          refine ⟨?_, ex_drew (ex_drew ⟨q, rfl⟩)⟩
          rw [hrel.out, cmpTop_gt' (by assumption)]; rfl
        · go_roundg k
          case measure => omega
          case rel => exact ⟨by omega, by go_num, hrel.out.trans (cmpTop_eq' (by omega)), ⟨_, rfl⟩⟩

/-- What the reference's Compare says of two lists. -/
def CmpS (a b : List Nat) (r : Int) : Prop :=
  (a.length < b.length → r = -1) ∧ (b.length < a.length → r = 1) ∧ (a.length = b.length → (val a < val b ∧ r = -1) ∨ (a = b ∧ r = 0) ∨ (val b < val a ∧ r = 1))
theorem Compare_c (w : World) (v u : Value) (l m : List Nat) (h : Sl w v l) (k : Sl w u m) :
    Calls Try.prog 39 #[v, u] w (RetI w (CmpS l m)) := by
  obtain ⟨h0, a, c, rfl, h2, h3, h5, h6⟩ := h
  obtain ⟨k0, b, d, rfl, k2, k3, k5, k6⟩ := k
  by_cases hlen : l.length = m.length
  · rcases Nat.eq_zero_or_pos l.length with hz | hp
    · have e1 : l = [] := List.length_eq_zero_iff.1 hz
      have e2 : m = [] := List.length_eq_zero_iff.1 (by omega)
      subst e1; subst e2
      refine (rcmp_none a b c d w).mono ?_
      rintro e w' ⟨rfl, rfl⟩
      exact ⟨0, rfl, ⟨fun h => by simp at h, fun h => by simp at h, fun _ => .inr (.inl ⟨rfl, rfl⟩)⟩, 0, rfl⟩
    · obtain ⟨b1, o1, rfl, _, hc⟩ := h6 hp
      obtain ⟨b2, o2, rfl, _, hd⟩ := k6 (by omega)
      rw [← hlen]
      refine (rcmp_same b1 o1 b2 o2 l.length c d l m w (by omega) hp hc (by rw [hlen]; exact hd)).mono ?_
      rintro e w' ⟨rfl, n, rfl⟩
      refine ⟨_, rfl, ⟨fun h => by omega, fun h => by omega, fun _ => ?_⟩, n, rfl⟩
      exact cmpTop_ext h0 k0 hlen l.length (Nat.le_refl _) (by rw [List.drop_of_length_le (Nat.le_refl _), List.drop_of_length_le (by omega)])
  · refine (rcmp_far a b l.length m.length c d w (by omega) (by omega) hlen).mono ?_
    rintro e w' ⟨rfl, rfl⟩
    exact ⟨_, rfl, ⟨fun h => if_pos h, fun h => if_neg (by omega), fun h => absurd h hlen⟩, 0, rfl⟩

/-- SameNat: are the limbs the same? -/
theorem SameNat_c (w : World) (v u : Value) (l m : List Nat) (h : Sl w v l) (k : Sl w u m) :
    Calls Try.prog 14 #[v, u] w (RetB w (l = m)) := by
  have HS := Lib.hid h
  have KS := Lib.hid k
  obtain ⟨h0, a, c, rfl, h2, h3, h5, h6⟩ := h
  obtain ⟨k0, b, d, rfl, k2, k3, k5, k6⟩ := k
  clear h5 h6 k5 k6
  by_cases hlen : l.length = m.length
  · have HL := Lib.hid hlen
    have hbe : ((l.length : Int) == (m.length : Int)) = true := by rw [beq_iff_eq]; omega
    clear hlen
    go_enter Try.func14, Try.ntmps14
    go_wp2_with fail
    refine (Compare_c _ _ _ _ _ HS.out KS.out).mono ?_
    rintro e w' ⟨r, rfl, hr, n, rfl⟩
    have HR := Lib.hid hr
    clear hr
    go_wp2_with fail
    go_ret
    refine ⟨_, rfl, ?_, n, rfl⟩
    simp only [beq_iff_eq]
    rcases HR.out.2.2 HL.out with ⟨h1, h2⟩ | ⟨h1, h2⟩ | ⟨h1, h2⟩
    · constructor
      · intro h; omega
      · intro h; subst h; omega
    · exact ⟨fun _ => h1, fun _ => h2⟩
    · constructor
      · intro h; omega
      · intro h; subst h; omega
  · have hbe : ((l.length : Int) == (m.length : Int)) = false := by rw [beq_eq_false_iff_ne]; omega
    have HL := Lib.hid hlen
    clear hlen
    go_enter Try.func14, Try.ntmps14
    go_wp2_with fail
    go_ret
    exact ⟨false, rfl, by simp only [Bool.false_eq_true, false_iff]; intro h; subst h; exact HL.out rfl, 0, rfl⟩
end Go.Proofs.Ytppehiajocgiiaa

namespace Go.Proofs.Ytppehiajocgiiaa
open Go.RowKit

/-- After i rounds of Sum. -/
def SumRel (a b o : List Nat) (i c : Nat) : Prop := o.length = i ∧ Lb o ∧ c ≤ 1 ∧ val o + c * 4294967296 ^ i = val (a.take i) + val (b.take i)
theorem SumRel.start (a b : List Nat) : SumRel a b [] 0 0 := ⟨rfl, Lb.nil, by omega, by simp [val]⟩
theorem SumRel.step {a b o : List Nat} {i c : Nat} (h : SumRel a b o i c) (ha : Lb a) (hb : Lb b) : SumRel a b (o ++ [addLo (lim a i) (lim b i) c]) (i + 1) (addHi (lim a i) (lim b i) c) := by
  obtain ⟨h1, h2, h3, h4⟩ := h
  have e0 := add_eq (lim a i) (lim b i) c
  have e2 := val_take_step a i
  have e3 := val_take_step b i
  refine ⟨by simp [h1], h2.append (Lb.cons (addLo_lt _ _ _) Lb.nil), addHi_le (ha.getD i) (hb.getD i) h3, ?_⟩
  rw [val_append, h1, e2, e3, Nat.pow_succ]
  simp only [val]
  generalize addLo (lim a i) (lim b i) c = lo at *
  generalize addHi (lim a i) (lim b i) c = hi at *
  grind
theorem SumRel.done {a b o : List Nat} {n c : Nat} (h : SumRel a b o n c) (ha : a.length ≤ n) (hb : b.length ≤ n) : val (o ++ [c]) = val a + val b ∧ Lb (o ++ [c]) := by
  obtain ⟨h1, h2, h3, h4⟩ := h
  rw [val_take_ge ha, val_take_ge hb] at h4
  refine ⟨?_, h2.append (Lb.cons (by omega) Lb.nil)⟩
  rw [val_append, h1]
  simp only [val]
  grind

theorem Sl.shape' {w : World} {v : Value} {l : List Nat} (h : Sl w v l) : ∃ a cap, v = .slice a l.length cap ∧ l.length ≤ cap := by
  obtain ⟨_, a, cap, h1, h2, _⟩ := h
  exact ⟨a, cap, h1, h2⟩
theorem own_cast {w : World} {base n : Nat} {v : Value} {l : List Nat} {x : Nat} {z : Int} (h : w.ownsRow base 49 1 v n (l.map u32 ++ [.int .u32 z])) (hz : z = (x : Int)) : w.ownsRow base 49 1 v n ((l ++ [x]).map u32) := by
  subst hz
  simpa [u32] using h

set_option maxRecDepth 100000 in
set_option maxHeartbeats 2000000 in
theorem Sum_c (w : World) (va vb : Value) (a b : List Nat) (h : Sl w va a) (k : Sl w vb b) (ha : a.length ≤ 1000000) (hb : b.length ≤ 1000000) :
    Calls Try.prog 66 #[va, vb] w (RetNat w (val a + val b)) := by
  have hs := h
  have ks := k
  obtain ⟨h0, p, cap, rfl, h2, h3, h5, h6⟩ := h
  obtain ⟨k0, q, cap', rfl, k2, k3, k5, k6⟩ := k
  have HS := Lib.hid hs
  have KS := Lib.hid ks
  obtain ⟨i0, hi, hz0, hz1, hz2⟩ := info_parts info32
  have hlm : Hid (maxLen = 9223372036854775807) := rfl
  obtain ⟨m, hm⟩ : ∃ m, m = max a.length b.length := ⟨_, rfl⟩
  have hm1 : a.length ≤ m := by omega
  have hm2 : b.length ≤ m := by omega
  have hm3 : m ≤ 1000000 := by omega
  have hm4 : Hid (m ≤ a.length ∨ m ≤ b.length) := by show _ ∨ _; omega
  have hmx : (if a.length < b.length then ((b.length : Nat) : Int) else ((a.length : Nat) : Int)) = (m : Int) := by split <;> omega
  clear hs ks h5 h6 k5 k6 hm
  go_enter Try.func66, Try.ntmps66
  go_wp2
  go_loopg [5, 6, 7] (m) (fun g o c t wx => ∃ (i x : Nat) (l : List Nat), i ≤ m ∧ g = m - i ∧ x ≤ 1 ∧ c = .int .u64 (x : Int) ∧ t = .int .i64 (i : Int) ∧ wx.ownsRow w.heap.size 49 1 o i (l.map u32) ∧ Hid (SumRel a b l i x) ∧ Below w.heap.size w wx)
  case atStart => exact ⟨0, 0, [], Nat.zero_le _, rfl, by omega, rfl, rfl, World.ownsRow_nil _ _ _ _, SumRel.start a b, Below.refl _ w⟩
  case round =>
    obtain ⟨i, x, l, hile, rfl, hx, rfl, rfl, hown, hrel, hbl⟩ := hrel
    have hsz := hbl.size
    by_cases hlt : i < m
    · have hax := h0.getD i
      have hbx := k0.getD i
      have hnext := hrel.out.step h0 k0
      have HN := Lib.hid hnext
      have hhi := addHi_le hax hbx hx
      have HOWN := Lib.hid hown
      clear hown hnext
      by_cases hla : i < a.length
      · by_cases hlb : i < b.length
        · skip
          obtain ⟨_, _, _, hv, _, _, _, h6⟩ := HS.out
          obtain ⟨rfl, rfl⟩ : p = _ ∧ cap = _ := by simpa using hv
          obtain ⟨b1, o1, rfl, hb1, hc1⟩ := h6 (by omega)
          have hca : wr.cell? ⟨b1, o1 + i, none⟩ = some (.int .u32 ((lim a i : Nat) : Int)) := (hbl.cell (p := ⟨b1, o1 + i, none⟩) hb1).trans (hc1 i hla)
          clear hc1 h6 hv
          obtain ⟨_, _, _, hv, _, _, _, k6⟩ := KS.out
          obtain ⟨rfl, rfl⟩ : q = _ ∧ cap' = _ := by simpa using hv
          obtain ⟨b2, o2, rfl, hb2, hc2⟩ := k6 (by omega)
          have hcb : wr.cell? ⟨b2, o2 + i, none⟩ = some (.int .u32 ((lim b i : Nat) : Int)) := (hbl.cell (p := ⟨b2, o2 + i, none⟩) hb2).trans (hc2 i hlb)
          clear hc2 k6 hv
          have hz1' : ((x : Int) + (lim a i : Nat) + (lim b i : Nat)) % 4294967296 = ((addLo (lim a i) (lim b i) x : Nat) : Int) := by unfold addLo; omega
          have hz2' : ((x : Int) + (lim a i : Nat) + (lim b i : Nat)) / 4294967296 = ((addHi (lim a i) (lim b i) x : Nat) : Int) := by unfold addHi; omega
          go_wp2_with (at_builtin; refine wpList_append_own _ rfl _ _ 23 rfl w.heap.size 49 i0 (.int .u32 0) 1 4 Try.underlying23 hi hz0 hz1 hz2 rfl (by decide) _ _ _ rfl (HOWN.out.alloc _) ⟨wr.heap.size, 0, none⟩ 1 1 [.int .u32 ((addLo (lim a i) (lim b i) x : Nat) : Int)] rfl rfl ?c1 ?c2 ?c3 ?c4 ?c5 ?_)
          case c1 => exact cell_one_new _ _ _
          case c2 => simp [Value.oneCell']
          case c3 => rw [hlm.out]; omega
          case c4 => omega
          case c5 => simp; omega
          intro v' w1 hown' hgrow _
          have hown2 := own_cast hown' rfl
          have hb1 := (hbl.alloc hsz (.cells #[.int .u32 ((addLo (lim a i) (lim b i) x : Nat) : Int)] 49)).grown hgrow (by simp; omega) (fun k hk => (HOWN.out.lt k hk).1)
          have HOWN2 := Lib.hid hown2
          have HB1 := Lib.hid hb1
          clear hown' hown2 hb1 hgrow
          go_wp2
          go_roundg (m - (i + 1))
          case measure => omega
          case rel => exact ⟨i + 1, _, _, by omega, rfl, hhi, rfl, by go_num, HOWN2.out, HN.out, HB1.out⟩
        · have hzb : lim b i = 0 := getD_ge (by omega)
          have HZB := Lib.hid hzb
          clear hzb
          obtain ⟨_, _, _, hv, _, _, _, h6⟩ := HS.out
          obtain ⟨rfl, rfl⟩ : p = _ ∧ cap = _ := by simpa using hv
          obtain ⟨b1, o1, rfl, hb1, hc1⟩ := h6 (by omega)
          have hca : wr.cell? ⟨b1, o1 + i, none⟩ = some (.int .u32 ((lim a i : Nat) : Int)) := (hbl.cell (p := ⟨b1, o1 + i, none⟩) hb1).trans (hc1 i hla)
          clear hc1 h6 hv
          have hz1' : ((x : Int) + (lim a i : Nat)) % 4294967296 = ((addLo (lim a i) (lim b i) x : Nat) : Int) := by have := HZB.out; unfold addLo; omega
          have hz2' : ((x : Int) + (lim a i : Nat)) / 4294967296 = ((addHi (lim a i) (lim b i) x : Nat) : Int) := by have := HZB.out; unfold addHi; omega
          go_wp2_with (at_builtin; refine wpList_append_own _ rfl _ _ 23 rfl w.heap.size 49 i0 (.int .u32 0) 1 4 Try.underlying23 hi hz0 hz1 hz2 rfl (by decide) _ _ _ rfl (HOWN.out.alloc _) ⟨wr.heap.size, 0, none⟩ 1 1 [.int .u32 ((addLo (lim a i) (lim b i) x : Nat) : Int)] rfl rfl ?c1 ?c2 ?c3 ?c4 ?c5 ?_)
          case c1 => exact cell_one_new _ _ _
          case c2 => simp [Value.oneCell']
          case c3 => rw [hlm.out]; omega
          case c4 => omega
          case c5 => simp; omega
          intro v' w1 hown' hgrow _
          have hown2 := own_cast hown' rfl
          have hb1 := (hbl.alloc hsz (.cells #[.int .u32 ((addLo (lim a i) (lim b i) x : Nat) : Int)] 49)).grown hgrow (by simp; omega) (fun k hk => (HOWN.out.lt k hk).1)
          have HOWN2 := Lib.hid hown2
          have HB1 := Lib.hid hb1
          clear hown' hown2 hb1 hgrow
          go_wp2
          go_roundg (m - (i + 1))
          case measure => omega
          case rel => exact ⟨i + 1, _, _, by omega, rfl, hhi, rfl, by go_num, HOWN2.out, HN.out, HB1.out⟩
      · have hlb : i < b.length := by have := hm4.out; omega
        have hza : lim a i = 0 := getD_ge (by omega)
        have HZA := Lib.hid hza
        clear hza
        obtain ⟨_, _, _, hv, _, _, _, k6⟩ := KS.out
        obtain ⟨rfl, rfl⟩ : q = _ ∧ cap' = _ := by simpa using hv
        obtain ⟨b2, o2, rfl, hb2, hc2⟩ := k6 (by omega)
        have hcb : wr.cell? ⟨b2, o2 + i, none⟩ = some (.int .u32 ((lim b i : Nat) : Int)) := (hbl.cell (p := ⟨b2, o2 + i, none⟩) hb2).trans (hc2 i hlb)
        clear hc2 k6 hv
        have hz1' : ((x : Int) + (lim b i : Nat)) % 4294967296 = ((addLo (lim a i) (lim b i) x : Nat) : Int) := by have := HZA.out; unfold addLo; omega
        have hz2' : ((x : Int) + (lim b i : Nat)) / 4294967296 = ((addHi (lim a i) (lim b i) x : Nat) : Int) := by have := HZA.out; unfold addHi; omega
        go_wp2_with (at_builtin; refine wpList_append_own _ rfl _ _ 23 rfl w.heap.size 49 i0 (.int .u32 0) 1 4 Try.underlying23 hi hz0 hz1 hz2 rfl (by decide) _ _ _ rfl (HOWN.out.alloc _) ⟨wr.heap.size, 0, none⟩ 1 1 [.int .u32 ((addLo (lim a i) (lim b i) x : Nat) : Int)] rfl rfl ?c1 ?c2 ?c3 ?c4 ?c5 ?_)
        case c1 => exact cell_one_new _ _ _
        case c2 => simp [Value.oneCell']
        case c3 => rw [hlm.out]; omega
        case c4 => omega
        case c5 => simp; omega
        intro v' w1 hown' hgrow _
        have hown2 := own_cast hown' rfl
        have hb1 := (hbl.alloc hsz (.cells #[.int .u32 ((addLo (lim a i) (lim b i) x : Nat) : Int)] 49)).grown hgrow (by simp; omega) (fun k hk => (HOWN.out.lt k hk).1)
        have HOWN2 := Lib.hid hown2
        have HB1 := Lib.hid hb1
        clear hown' hown2 hb1 hgrow
        go_wp2
        go_roundg (m - (i + 1))
        case measure => omega
        case rel => exact ⟨i + 1, _, _, by omega, rfl, hhi, rfl, by go_num, HOWN2.out, HN.out, HB1.out⟩
    · have hd := hrel.out.done (n := i) (by omega) (by omega)
      have HD1 := Lib.hid hd.1
      have hlb := hd.2
      have HOWN := Lib.hid hown
      clear hd hown
      go_wp2_with (at_builtin; refine wpList_append_own _ rfl _ _ 23 rfl w.heap.size 49 i0 (.int .u32 0) 1 4 Try.underlying23 hi hz0 hz1 hz2 rfl (by decide) _ _ _ rfl (HOWN.out.alloc _) ⟨wr.heap.size, 0, none⟩ 1 1 [.int .u32 (x : Int)] rfl rfl ?c1 ?c2 ?c3 ?c4 ?c5 ?_)
      case c1 => exact cell_one_new _ _ _
      case c2 => simp [Value.oneCell']
      case c3 => rw [hlm.out]; omega
      case c4 => omega
      case c5 => simp; omega
      intro v' w1 hown' hgrow _
      have hown2 := own_cast hown' rfl
      have hs2 := Sl.of_own hown2 hlb
      have HS2 := Lib.hid hs2
      have hb1 := (hbl.alloc hsz (.cells #[.int .u32 (x : Int)] 49)).grown hgrow (by simp; omega) (fun k hk => (HOWN.out.lt k hk).1)
      have HB1 := Lib.hid hb1
      clear hs2 hown2 hown' hb1 hgrow
      go_wp2_with fail
      refine (rtrim_c _ _ _ HS2.out).mono ?_
      rw [HD1.out]
      rintro e w' ⟨⟨a', cap'', hv, rfl, hs'⟩, rfl⟩
      clear hv
      have HS' := Lib.hid hs'
      clear hs'
      go_wp2_with fail
      go_ret
      exact ⟨_, rfl, HS'.out, HB1.out⟩
end Go.Proofs.Ytppehiajocgiiaa
