/- Walks of the reference: Decimal. -/
import Derived.Test.YtaojdlcailpheaaQVF
import Derived.Test.YtaojdlcailpheaaK27
set_option linter.unusedVariables false
namespace Go.Proofs.Ytaojdlcailpheaa
open Go.RowKit

/-- Digits that have been found, the least first, as bytes in reading order. -/
def dg (l : List Nat) : List UInt8 := l.reverse.map UInt8.ofNat
theorem dg_snoc (l : List Nat) (x : Nat) : bs [UInt8.ofNat x] ++ bs (dg l) = bs (dg (l ++ [x])) := by
  rw [append_bs]; simp [dg]
theorem digit_at {r : Nat} (h : r < 10) : (bs [48, 49, 50, 51, 52, 53, 54, 55, 56, 57]).extract r (r + 1) = bs [UInt8.ofNat (48 + r)] := by
  rw [extract_bs]
  match r with
  | 0 => rfl
  | 1 => rfl
  | 2 => rfl
  | 3 => rfl
  | 4 => rfl
  | 5 => rfl
  | 6 => rfl
  | 7 => rfl
  | 8 => rfl
  | 9 => rfl
  | n + 10 => omega

set_option maxRecDepth 100000 in
set_option maxHeartbeats 4000000 in
theorem rDecimal_c (w : World) (v : Value) (n : Nat) (h : Sl w v (limbs n)) (hl : (limbs n).length ≤ 1000) :
    Calls Try.prog 64 #[v] w fun e w' => e = .returned (.string (decS n)) ∧ Below w.heap.size w w' := by
  obtain ⟨p, cp, rfl, hp1, hp2⟩ := h.shape
  have H := Lib.hid h
  clear h
  go_enter Try.func64, Try.ntmps64
  go_wp2
  go_loopg [0, 3] n (fun g ta ts wx => ∃ (m : Nat) (pa : Option Addr) (ca : Nat) (l : List Nat), m ≤ n ∧ g = m ∧ ta = .slice pa (limbs m).length ca ∧ ts = .string (bs (dg l)) ∧ Hid (Sl wx (.slice pa (limbs m).length ca) (limbs m)) ∧ Hid (l ++ revd m = revd n) ∧ Hid (Below w.heap.size w wx))
  case atStart => exact ⟨n, p, cp, [], Nat.le_refl _, rfl, rfl, rfl, H.out, rfl, Below.refl _ _⟩
  case round =>
    obtain ⟨m, pa, ca, l, hmn, hgm, rfl, rfl, hs0, hrel0, hbl0⟩ := hrel
    obtain rfl := hgm.symm
    have hlm : Hid ((limbs m).length ≤ 1000) := Nat.le_trans (limbs_len_mono hmn) hl
    by_cases hm0 : 0 < m
    · obtain ⟨wo, rfl⟩ : ∃ wo : World, wo = wr := ⟨_, rfl⟩
      have hmp : 0 < (limbs m).length := limbs_len_pos hm0
      have hl1000 := hlm.out
      have hmk := run_make32 (limbs m).length (by omega)
      have hwl : IntKind.i64.wrap (((limbs m).length : Int) - 1) = ((limbs m).length : Int) - 1 := wrap_in (by omega) (by omega)
      obtain ⟨S, hS⟩ : ∃ S, bs (dg l) = S := ⟨_, rfl⟩
      have HSS := Lib.hid hS
      rw [hS]
      have HM := Lib.hid (val_limbs m)
      obtain ⟨a, ha⟩ : ∃ a, limbs m = a := ⟨_, rfl⟩
      have HLA := Lib.hid (ha ▸ limbs_lb m)
      rw [ha] at hs0 hmk hwl hmp HM hl1000 ⊢
      clear hS ha hlm
      go_wp2
      go_loopg [5, 6] a.length (fun g t5 t6 wx => ∃ (i x : Nat) (o : List Nat), i ≤ a.length ∧ g = i ∧ x < 10 ∧ t5 = .int .u64 (x : Int) ∧ t6 = .int .i64 ((i : Int) - 1) ∧ Row32 wx wo.heap.size o ∧ Hid (ShortRel a o 10 i x) ∧ Below wo.heap.size wo wx)
      case atStart => exact ⟨a.length, 0, _, Nat.le_refl _, rfl, by omega, rfl, rfl, Row32.made wo _, ShortRel.start a (by omega), (Below.refl _ wo).alloc (Nat.le_refl _) _⟩
      case round =>
        obtain ⟨i, x, o, hi, hgi, hx, rfl, rfl, hrow, hrel, hbl⟩ := hrel
        obtain rfl := hgi.symm
        have r1 := hrel.out.1
        have r2 := hrel.out.2.1
        rcases i with _ | i
        · have hs2 := Sl.of_row (cap := a.length) hrow r2 (by omega) (by omega)
          rw [r1] at hs2
          obtain ⟨d1, d2⟩ := hrel.out.done
          rw [HM.out] at d1 d2
          have HS2 := Lib.hid hs2
          have D1 := Lib.hid d1
          obtain ⟨D, hD⟩ : ∃ D, bs [UInt8.ofNat (48 + x)] = D := ⟨_, rfl⟩
          have hdig : (⟨#[48, 49, 50, 51, 52, 53, 54, 55, 56, 57]⟩ : ByteArray).extract x (x + 1) = D := hD ▸ digit_at hx
          have hcat : Hid (D ++ S = bs (dg (l ++ [48 + x]))) := by show _ = _; rw [← hD, ← HSS.out, dg_snoc]
          have hsz : D.size + S.size ≤ 9223372036854775807 := by
            have e1 : D.size = 1 := by rw [← hD]; rfl
            have e2 : S.size = l.length := by rw [← HSS.out, bs_size]; simp [dg]
            have e3 := congrArg List.length hrel0.out
            rw [List.length_append] at e3
            have e4 := revd_limbs (n := n)
            omega
          clear hD
          have hx1 : IntKind.u64.wrap ((x : Int) + 1) = (x : Int) + 1 := by rw [IntKind.wrap_u64]; omega
          have hxs : ((x : Int) + 1).toNat = x + 1 := by omega
          have hxle : (x : Int) + 1 ≤ 10 := by omega
          have hx0 : (x : Int) ≤ (x : Int) + 1 := by omega
          have HXM := Lib.hid d2
          clear hrow r1 r2 hs2 d1 d2 hmk hrel hwl
          go_wp2_with fail
          refine (rtrim_c _ _ _ HS2.out).mono ?_
          rw [D1.out]
          rintro e w' ⟨⟨a', cap'', hv, rfl, hs'⟩, rfl⟩
          have HS' := Lib.hid hs'
          clear hv hs'
          go_wp2
          go_roundg (m / 10)
          case measure => omega
          case rel => exact ⟨m / 10, a', cap'', l ++ [48 + x], by omega, rfl, by go_num, by rw [hcat.out], HS'.out, by
            show _ = _
            rw [← hrel0.out, revd_pos hm0, HXM.out]; simp, hbl0.out.trans (hbl.mono hbl0.out.size)⟩
        · rw [show ((i + 1 : Nat) : Int) - 1 = (i : Int) from by omega]
          obtain ⟨h0, _, _, hv, _, _, _, h6⟩ := hs0.out
          obtain ⟨rfl, rfl⟩ : pa = _ ∧ ca = _ := by simpa using hv
          obtain ⟨b1, o1, rfl, hb1, hc1⟩ := h6 (by omega)
          have hca : wr.cell? ⟨b1, o1 + i, none⟩ = some (.int .u32 ((lim a i : Nat) : Int)) := (hbl.cell (p := ⟨b1, o1 + i, none⟩) hb1).trans (hc1 i (by omega))
          have hrc := hrow.cell (i := i) (by omega)
          have hrf := hrow.frozen i
          have HROW := Lib.hid hrow
          have hax := h0.getD i
          have hil : (i : Int) < (a.length : Int) := by omega
          have hi0 : (0 : Int) ≤ (i : Int) := by omega
          have hwi : IntKind.i64.wrap ((i : Int) - 1) = (i : Int) - 1 := wrap_in (by omega) (by omega)
          have hnx := Lib.hid (hrel.out.step h0 (show i < a.length by omega))
          have hrlt := divR_lt (h := x) (l := lim a i) hx
          have hdq : divQ x (lim a i) 10 = (lim a i + 4294967296 * x) / 10 := by unfold divQ; congr 1; omega
          have hdr : divR x (lim a i) 10 = (lim a i + 4294967296 * x) % 10 := by unfold divR; congr 1; omega
          rw [hdq, hdr] at hnx
          rw [hdr] at hrlt
          have hor := or_low_u64 (lim a i) x hax (by omega)
          obtain ⟨y, hy⟩ : ∃ y, lim a i = y := ⟨_, rfl⟩
          rw [hy] at hor hnx hca hax hrlt
          obtain ⟨T, hT⟩ : ∃ T, y + 4294967296 * x = T := ⟨_, rfl⟩
          rw [hT] at hor hnx hrlt
          have hT1 : T < 42949672960 := by omega
          have hwx : IntKind.u64.wrap ((x : Int) * 4294967296) = (x : Int) * 4294967296 := by rw [IntKind.wrap_u64]; omega
          have hwq : IntKind.u32.wrap ((T : Int) / 10) = (T : Int) / 10 := by rw [IntKind.wrap_u32]; omega
          clear hc1 h6 hv hrow hmk r1 r2 hdq hdr hy hT hrel
          go_wp2_with fail
          go_roundg i
          case measure => omega
          case rel => exact ⟨i, T % 10, _, by omega, rfl, by omega, by go_num, by go_num, HROW.out.set' i (T / 10) (by omega), hnx.out, hbl.setCell (Nat.le_refl _) _⟩
    · obtain rfl : m = 0 := by omega
      have hlr : l = revd n := by have := hrel0.out; rw [revd_zero, List.append_nil] at this; exact this
      rcases Nat.eq_zero_or_pos n with h0 | h0
      · subst h0
        obtain rfl : l = [] := by rw [hlr, revd_zero]
        have hs : Hid (decS 0 = ⟨#[48]⟩) := by show _ = _; unfold decS; rw [if_pos rfl]
        simp only [limbs_zero, List.length_nil]
        obtain ⟨S, hS⟩ : ∃ S, bs (dg []) = S := ⟨_, rfl⟩
        rw [hS]
        have hemp : S.toList.isEmpty = true := by rw [← hS, ba_list]; rfl
        clear hS hlr
        go_wp2_with fail
        go_ret
        exact ⟨by rw [hs.out]; rfl, hbl0.out⟩
      · have hs : Hid (decS n = bs (dg l)) := by
          show _ = _
          unfold decS
          rw [if_neg (by omega), hlr]; rfl
        have hne : bs (dg l) ≠ ⟨#[]⟩ := fun e => by
          have := bs_inj (b := []) e
          rw [hlr, revd_pos h0] at this
          simp [dg] at this
        obtain ⟨S, hS⟩ : ∃ S, bs (dg l) = S := ⟨_, rfl⟩
        rw [hS] at hne ⊢ hs
        have hnl : S.toList.isEmpty = false := by rw [ba_list, List.isEmpty_eq_false_iff]; exact fun e => hne (ba_ext e)
        simp only [limbs_zero, List.length_nil]
        clear hS hlr
        go_wp2_with fail
        go_ret
        exact ⟨by rw [hs.out]; rfl, hbl0.out⟩
end Go.Proofs.Ytaojdlcailpheaa
