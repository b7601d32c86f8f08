/- Journal, walks of the package: record. -/
import Derived.Test.YtpaoeeamlinaaaaGreatDoorK08
import Derived.Test.YtpaoeeamlinaaaaGreatDoorK09
import Derived.Test.YtpaoeeamlinaaaaGreatDoorK10
set_option linter.unusedVariables false
namespace Go.Proofs.YtpaoeeamlinaaaaGreatDoor
open Go.RowKit

theorem bs_eqv (a b : List UInt8) : ((bs a).toList == (bs b).toList) = decide (a = b) := by
  rw [bs_list, bs_list]
  rw [Bool.eq_iff_iff]
  simp
/-- Where a word stands among the words of the kinds. -/
def idxW (wd : List UInt8) : Int := if wd = wordK 0 then 0 else if wd = wordK 1 then 1 else if wd = wordK 2 then 2 else if wd = wordK 3 then 3 else if wd = wordK 4 then 4 else if wd = wordK 5 then 5 else -1
theorem idx_kind (wd : List UInt8) : max 0 (idxW wd) = (kindW wd : Int) ∧ kindW wd ≤ 5 := by
  unfold idxW kindW
  by_cases h0 : wd = wordK 0
  · subst h0; decide
  rw [if_neg h0]
  by_cases h1 : wd = wordK 1
  · simp only [if_pos h1]; decide
  rw [if_neg h1, if_neg h1]
  by_cases h2 : wd = wordK 2
  · simp only [if_pos h2]; decide
  rw [if_neg h2, if_neg h2]
  by_cases h3 : wd = wordK 3
  · simp only [if_pos h3]; decide
  rw [if_neg h3, if_neg h3]
  by_cases h4 : wd = wordK 4
  · simp only [if_pos h4]; decide
  rw [if_neg h4, if_neg h4]
  by_cases h5 : wd = wordK 5
  · simp only [if_pos h5]; decide
  rw [if_neg h5, if_neg h5]
  decide
theorem idx_hit {wd : List UInt8} {i : Nat} (hi : i < 6) (h : ∀ j, j < i → wd ≠ wordK j) (e : wd = wordK i) : idxW wd = (i : Int) := by
  unfold idxW
  match i, hi with
  | 0, _ => rw [if_pos e]; rfl
  | 1, _ => rw [if_neg (h 0 (by omega)), if_pos e]; rfl
  | 2, _ => rw [if_neg (h 0 (by omega)), if_neg (h 1 (by omega)), if_pos e]; rfl
  | 3, _ => rw [if_neg (h 0 (by omega)), if_neg (h 1 (by omega)), if_neg (h 2 (by omega)), if_pos e]; rfl
  | 4, _ => rw [if_neg (h 0 (by omega)), if_neg (h 1 (by omega)), if_neg (h 2 (by omega)), if_neg (h 3 (by omega)), if_pos e]; rfl
  | 5, _ => rw [if_neg (h 0 (by omega)), if_neg (h 1 (by omega)), if_neg (h 2 (by omega)), if_neg (h 3 (by omega)), if_neg (h 4 (by omega)), if_pos e]; rfl
theorem idx_miss {wd : List UInt8} (h : ∀ j, j < 6 → wd ≠ wordK j) : idxW wd = -1 := by
  unfold idxW
  rw [if_neg (h 0 (by omega)), if_neg (h 1 (by omega)), if_neg (h 2 (by omega)), if_neg (h 3 (by omega)), if_neg (h 4 (by omega)), if_neg (h 5 (by omega))]
set_option maxRecDepth 100000 in
set_option maxHeartbeats 1000000 in
theorem index_c (w : World) (b off cap : Nat) (wd : List UInt8) (hcap : 6 ≤ cap) (hbl : b < w.heap.size) (hc : ∀ i, i < 6 → w.cell? ⟨b, off + i, none⟩ = some (.string (bs (wordK i)))) :
    Calls Tryz.prog 51 #[.slice (some ⟨b, off, none⟩) 6 cap, .string (bs wd)] w fun e w' => e = .returned (.int .i64 (idxW wd)) ∧ Below w.heap.size w w' := by
  have HC := Lib.hid hc
  clear hc
  go_enter Tryz.func51, Tryz.ntmps51
  go_wp2_with fail
  go_loopg [8] 6 (fun g t wx => ∃ i : Nat, i ≤ 6 ∧ g = 6 - i ∧ t = .int .i64 (i : Int) ∧ Hid (∀ j, j < i → wd ≠ wordK j) ∧ wx = w)
  case atStart => exact ⟨0, by omega, rfl, rfl, fun j hj => by omega, rfl⟩
  case round =>
    obtain ⟨i, hi, rfl, rfl, hm, hw⟩ := hrel
    subst hw
    by_cases hlt : i < 6
    · have y0 := HC.out i hlt
      have hq := bs_eqv wd (wordK i)
      have il : (i : Int) < 6 := by omega
      have i0 : (0 : Int) ≤ (i : Int) := by omega
      by_cases he : wd = wordK i
      · have HH := Lib.hid (idx_hit hlt hm.out he)
        obtain ⟨k, hk⟩ : ∃ k, wordK i = k := ⟨_, rfl⟩
        rw [hk] at hq y0 he
        have hq' : ((bs wd).toList == (bs k).toList) = true := by rw [hq]; exact decide_eq_true he
        clear hq he hk
        go_wp2_with fail
        go_ret
        exact ⟨by rw [HH.out]; rfl, Below.refl _ _⟩
      · have HNE := Lib.hid he
        obtain ⟨k, hk⟩ : ∃ k, wordK i = k := ⟨_, rfl⟩
        have HKK := Lib.hid hk
        rw [hk] at hq y0 he
        have hq' : ((bs wd).toList == (bs k).toList) = false := by rw [hq]; exact decide_eq_false he
        clear hq he hk
        go_wp2_with fail
        go_roundg (6 - (i + 1))
        case measure => omega
        case rel =>
          refine ⟨i + 1, by omega, rfl, by go_num, fun j hj => ?_, rfl⟩
          rcases Nat.lt_succ_iff_lt_or_eq.1 hj with h | h
          · exact hm.out j h
          · rw [h]; exact HNE.out
    · obtain rfl : i = 6 := by omega
      have HH := Lib.hid (idx_miss hm.out)
      go_wp2_with fail
      go_ret
      exact ⟨by rw [HH.out]; rfl, Below.refl _ _⟩
def RetRc (w : World) (line : List UInt8) (e : Ending) (w' : World) : Prop := ∃ v, e = .returned (.tuple #[v, .int .i64 (recP line).2]) ∧ IsRT w' v (recP line).1 ∧ Below w.heap.size w w'
theorem none_is (w : World) : IsRT w (.agg #[.int .u8 0, .int .i64 0, .int .i64 0, .int .i64 0, .int .u8 0, .slice none 0 0, .slice none 0 0]) Rec.none :=
  ⟨⟨by decide, by constructor <;> decide, by constructor <;> decide, by constructor <;> decide, by decide⟩, _, _, rfl, SlST.nil w, SlLT.nil w⟩
theorem rec_end {w w' : World} {line : List UInt8} {e : Int} (h : recP line = (Rec.none, e)) (hb : Below w.heap.size w w') : RetRc w line (.returned (.tuple #[.agg #[.int .u8 0, .int .i64 0, .int .i64 0, .int .i64 0, .int .u8 0, .slice none 0 0, .slice none 0 0], .int .i64 e])) w' :=
  ⟨_, by rw [h], by rw [h]; exact none_is w', hb⟩
theorem fx7 (W : World) (R : Nat) (a b c d e f g : Value) : Fx (fun k => k = R) W (((((((W.setCell ⟨R, 0, none⟩ a).setCell ⟨R, 1, none⟩ b).setCell ⟨R, 2, none⟩ c).setCell ⟨R, 3, none⟩ d).setCell ⟨R, 4, none⟩ e).setCell ⟨R, 5, none⟩ f).setCell ⟨R, 6, none⟩ g) :=
  ((((((Fx.set W R 0 a).trans (Fx.set _ R 1 b)).trans (Fx.set _ R 2 c)).trans (Fx.set _ R 3 d)).trans (Fx.set _ R 4 e)).trans (Fx.set _ R 5 f)).trans (Fx.set _ R 6 g)

set_option maxRecDepth 100000 in
set_option maxHeartbeats 4000000 in
theorem record_c (w : World) (line : List UInt8) (hl : line.length ≤ 900000) (he : Env w) : Calls Tryz.prog 36 #[.string (bs line)] w (RetRc w line) := by
  obtain ⟨W0, hW⟩ : ∃ W0, W0 = w.alloc (.cells #[.int .u8 0, .int .i64 0, .int .i64 0, .int .i64 0, .int .u8 0, .slice none 0 0, .slice none 0 0] 29) := ⟨_, rfl⟩
  have hb0 : Below w.heap.size w W0 := by rw [hW]; exact held_alloc (Below.refl _ _)
  have bx : Box W0 w.heap.size #[.int .u8 0, .int .i64 0, .int .i64 0, .int .i64 0, .int .u8 0, .slice none 0 0, .slice none 0 0] 29 := by rw [hW]; exact Box.new _ _ _
  have HE := Lib.hid he
  have HB0 := Lib.hid hb0
  have BX := Lib.hid bx
  have hz0 : w.heap.size ≤ W0.heap.size := hb0.size
  obtain ⟨a, b, f, hcut⟩ : ∃ a b f, cutT 35 line = (a, b, f) := ⟨_, _, _, rfl⟩
  have HCUT := Lib.hid (cut_c W0 35 line (by omega) (he.after hb0))
  rw [hcut] at HCUT
  dsimp only at HCUT
  have hab : a.length ≤ line.length ∧ b.length ≤ line.length := by
    unfold cutT at hcut
    rcases hc : cutC 35 line with _ | ⟨x, y⟩
    · rw [hc] at hcut
      simp only [Prod.mk.injEq] at hcut
      obtain ⟨rfl, rfl, _⟩ := hcut
      simp
    · rw [hc] at hcut
      simp only [Prod.mk.injEq] at hcut
      obtain ⟨rfl, rfl, _⟩ := hcut
      have := (index_some hc).2
      rw [this]
      simp
      omega
  -- what record answers, told by the parts
  have HR : Hid (recP line = ((if 4 < b.length then (Rec.none, 4) else match numF b with
      | none => (Rec.none, 4)
      | some n => if n ≠ sumT a then (Rec.none, 17) else match parsedF a with
        | none => (Rec.none, 4)
        | some (wd, l) => if doneB (recW (kindW wd) l).2 = true ∧ lineF (recW (kindW wd) l).1 = (line ++ [10], 0) then ((recW (kindW wd) l).1, 0) else (Rec.none, 4)) : Rec × Int)) := by
    show _ = _
    unfold recP
    unfold cutT at hcut
    rcases hc : cutC 35 line with _ | ⟨x, y⟩
    · rw [hc] at hcut
      simp only [Prod.mk.injEq] at hcut
      obtain ⟨rfl, rfl, _⟩ := hcut
      rfl
    · rw [hc] at hcut
      simp only [Prod.mk.injEq] at hcut
      obtain ⟨rfl, rfl, _⟩ := hcut
      rfl
  have HA : Hid (a.length ≤ 900000) := by show _ ≤ _; omega
  have HBL : Hid (b.length ≤ 900000) := by show _ ≤ _; omega
  clear hcut he hb0 bx hab
  go_enter Tryz.func36, Tryz.ntmps36
  go_upto_region 1 with fail
  rw [← hW]
  clear hW
  go_wp2_with fail
  refine HCUT.out.mono ?_
  rintro e w1 ⟨rfl, hb1⟩
  have HB1 : Hid (Below w.heap.size w w1) := HB0.out.trans (hb1.mono hz0)
  have BX1 := Lib.hid (BX.out.after hb1)
  clear hb1
  go_wp2_with fail
  refine (number_c w1 b (by have := HBL.out; omega)).mono ?_
  unfold RetNo
  have hbz := bs_size b
  rcases hn : numF b with _ | k
  · have HF : Hid (recP line = (Rec.none, 4)) := by
      show _ = _
      rw [HR.out, hn]
      by_cases h5 : 4 < b.length
      · rw [if_pos h5]
      · rw [if_neg h5]
    rw [show numV b = 0 from by unfold numV; rw [hn]; rfl]
    rintro e w2 ⟨rfl, hb2⟩
    have HB2 : Hid (Below w.heap.size w w2) := HB1.out.trans (hb2.mono HB1.out.size)
    have BX2 := Lib.hid (BX1.out.after hb2)
    clear hb2 hn
    dsimp only [Option.isSome]
    have x0 : w2.cell? ⟨w.heap.size, 0, none⟩ = some (.int .u8 0) := BX2.out.cell 0
    have x1 : w2.cell? ⟨w.heap.size, 1, none⟩ = some (.int .i64 0) := BX2.out.cell 1
    have x2 : w2.cell? ⟨w.heap.size, 2, none⟩ = some (.int .i64 0) := BX2.out.cell 2
    have x3 : w2.cell? ⟨w.heap.size, 3, none⟩ = some (.int .i64 0) := BX2.out.cell 3
    have x4 : w2.cell? ⟨w.heap.size, 4, none⟩ = some (.int .u8 0) := BX2.out.cell 4
    have x5 : w2.cell? ⟨w.heap.size, 5, none⟩ = some (.slice none 0 0) := BX2.out.cell 5
    have x6 : w2.cell? ⟨w.heap.size, 6, none⟩ = some (.slice none 0 0) := BX2.out.cell 6
    have f0 := BX2.out.frozen 0
    have f1 := BX2.out.frozen 1
    have f2 := BX2.out.frozen 2
    have f3 := BX2.out.frozen 3
    have f4 := BX2.out.frozen 4
    have f5 := BX2.out.frozen 5
    have f6 := BX2.out.frozen 6
    have xl := BX2.out.lt
    go_wp2_with fail
    have hE7 := end7 (a := .int .u8 0) (b := .int .i64 0) (c := .int .i64 0) (d := .int .i64 0) (e := .int .u8 0) (f := .slice none 0 0) (g := .slice none 0 0) BX2.out
    have hbE := below7 (a := .int .u8 0) (b := .int .i64 0) (c := .int .i64 0) (d := .int .i64 0) (e := .int .u8 0) (f := .slice none 0 0) (g := .slice none 0 0) HB2.out (Nat.le_refl w.heap.size)
    have hfE := fx7 w2 w.heap.size (.int .u8 0) (.int .i64 0) (.int .i64 0) (.int .i64 0) (.int .u8 0) (.slice none 0 0) (.slice none 0 0)
    refine (show (∀ WE, Box WE w.heap.size #[.int .u8 0, .int .i64 0, .int .i64 0, .int .i64 0, .int .u8 0, .slice none 0 0, .slice none 0 0] 29 → Below w.heap.size w WE → Fx (fun g => g = w.heap.size) w2 WE → bodyPost Tryz.prog _ (RetRc w line) Exit.ret _ WE) → _ from fun H => H _ hE7 hbE hfE) ?_
    clear hE7 hbE hfE
    intro WE hE7 hbE hfE
    have ze0 := hE7.cell 0
    have ze1 := hE7.cell 1
    have ze2 := hE7.cell 2
    have ze3 := hE7.cell 3
    have ze4 := hE7.cell 4
    have ze5 := hE7.cell 5
    have ze6 := hE7.cell 6
    refine bodyPost_ret (v := .tuple #[.agg #[.int .u8 0, .int .i64 0, .int .i64 0, .int .i64 0, .int .u8 0, .slice none 0 0, .slice none 0 0], .int .i64 4]) (by simp [results, Tryz.results36, go_sem, ze0, ze1, ze2, ze3, ze4, ze5, ze6]) rfl ?_
    exact rec_end HF.out hbE
  rw [show numV b = (k : Int) from by unfold numV; rw [hn]; rfl]
  have HK : Hid (k < 10000000) := numF_lt hn
  by_cases h4 : 4 < b.length
  · have HF : Hid (recP line = (Rec.none, 4)) := by
      show _ = _
      rw [HR.out, if_pos h4]
    have q1 : (4 : Int) < (b.length : Int) := by omega
    have q2 : decide (4 < (b.length : Int)) = true := decide_eq_true q1
    rintro e w2 ⟨rfl, hb2⟩
    have HB2 : Hid (Below w.heap.size w w2) := HB1.out.trans (hb2.mono HB1.out.size)
    have BX2 := Lib.hid (BX1.out.after hb2)
    clear hb2 hn h4
    dsimp only [Option.isSome]
    have x0 : w2.cell? ⟨w.heap.size, 0, none⟩ = some (.int .u8 0) := BX2.out.cell 0
    have x1 : w2.cell? ⟨w.heap.size, 1, none⟩ = some (.int .i64 0) := BX2.out.cell 1
    have x2 : w2.cell? ⟨w.heap.size, 2, none⟩ = some (.int .i64 0) := BX2.out.cell 2
    have x3 : w2.cell? ⟨w.heap.size, 3, none⟩ = some (.int .i64 0) := BX2.out.cell 3
    have x4 : w2.cell? ⟨w.heap.size, 4, none⟩ = some (.int .u8 0) := BX2.out.cell 4
    have x5 : w2.cell? ⟨w.heap.size, 5, none⟩ = some (.slice none 0 0) := BX2.out.cell 5
    have x6 : w2.cell? ⟨w.heap.size, 6, none⟩ = some (.slice none 0 0) := BX2.out.cell 6
    have f0 := BX2.out.frozen 0
    have f1 := BX2.out.frozen 1
    have f2 := BX2.out.frozen 2
    have f3 := BX2.out.frozen 3
    have f4 := BX2.out.frozen 4
    have f5 := BX2.out.frozen 5
    have f6 := BX2.out.frozen 6
    have xl := BX2.out.lt
    go_wp2_with fail
    have hE7 := end7 (a := .int .u8 0) (b := .int .i64 0) (c := .int .i64 0) (d := .int .i64 0) (e := .int .u8 0) (f := .slice none 0 0) (g := .slice none 0 0) BX2.out
    have hbE := below7 (a := .int .u8 0) (b := .int .i64 0) (c := .int .i64 0) (d := .int .i64 0) (e := .int .u8 0) (f := .slice none 0 0) (g := .slice none 0 0) HB2.out (Nat.le_refl w.heap.size)
    have hfE := fx7 w2 w.heap.size (.int .u8 0) (.int .i64 0) (.int .i64 0) (.int .i64 0) (.int .u8 0) (.slice none 0 0) (.slice none 0 0)
    refine (show (∀ WE, Box WE w.heap.size #[.int .u8 0, .int .i64 0, .int .i64 0, .int .i64 0, .int .u8 0, .slice none 0 0, .slice none 0 0] 29 → Below w.heap.size w WE → Fx (fun g => g = w.heap.size) w2 WE → bodyPost Tryz.prog _ (RetRc w line) Exit.ret _ WE) → _ from fun H => H _ hE7 hbE hfE) ?_
    clear hE7 hbE hfE
    intro WE hE7 hbE hfE
    have ze0 := hE7.cell 0
    have ze1 := hE7.cell 1
    have ze2 := hE7.cell 2
    have ze3 := hE7.cell 3
    have ze4 := hE7.cell 4
    have ze5 := hE7.cell 5
    have ze6 := hE7.cell 6
    refine bodyPost_ret (v := .tuple #[.agg #[.int .u8 0, .int .i64 0, .int .i64 0, .int .i64 0, .int .u8 0, .slice none 0 0, .slice none 0 0], .int .i64 4]) (by simp [results, Tryz.results36, go_sem, ze0, ze1, ze2, ze3, ze4, ze5, ze6]) rfl ?_
    exact rec_end HF.out hbE
  have q1 : ¬ (4 : Int) < (b.length : Int) := by omega
  have q2 : decide (4 < (b.length : Int)) = false := decide_eq_false q1
  have HR2 : Hid (recP line = ((if k ≠ sumT a then (Rec.none, 17) else match parsedF a with
        | none => (Rec.none, 4)
        | some (wd, l) => if doneB (recW (kindW wd) l).2 = true ∧ lineF (recW (kindW wd) l).1 = (line ++ [10], 0) then ((recW (kindW wd) l).1, 0) else (Rec.none, 4)) : Rec × Int)) := by
    show _ = _
    rw [HR.out, hn, if_neg h4]
  clear HR hn h4
  rintro e w2 ⟨rfl, hb2⟩
  have HB2 : Hid (Below w.heap.size w w2) := HB1.out.trans (hb2.mono HB1.out.size)
  have BX2 := Lib.hid (BX1.out.after hb2)
  clear hb2
  dsimp only [Option.isSome]
  go_wp2_with fail
  refine (Sum_c w2 a (by have := HA.out; omega)).mono ?_
  obtain ⟨sm, hsm⟩ : ∃ sm, sumT a = sm := ⟨_, rfl⟩
  rw [hsm] at HR2 ⊢
  clear hsm
  by_cases hks : k = sm
  rotate_left
  · have HF : Hid (recP line = (Rec.none, 17)) := by
      show _ = _
      rw [HR2.out, if_pos hks]
    have q3 : ((k : Int) == (sm : Int)) = false := by rw [beq_eq_false_iff_ne]; omega
    have q4 : ((k : Int) != (sm : Int)) = true := by rw [bne, q3]; rfl
    clear hks
    rintro e w3 ⟨rfl, hb3⟩
    have HB3 : Hid (Below w.heap.size w w3) := HB2.out.trans (hb3.mono HB2.out.size)
    have BX3 := Lib.hid (BX2.out.after hb3)
    clear hb3
    have x0 : w3.cell? ⟨w.heap.size, 0, none⟩ = some (.int .u8 0) := BX3.out.cell 0
    have x1 : w3.cell? ⟨w.heap.size, 1, none⟩ = some (.int .i64 0) := BX3.out.cell 1
    have x2 : w3.cell? ⟨w.heap.size, 2, none⟩ = some (.int .i64 0) := BX3.out.cell 2
    have x3 : w3.cell? ⟨w.heap.size, 3, none⟩ = some (.int .i64 0) := BX3.out.cell 3
    have x4 : w3.cell? ⟨w.heap.size, 4, none⟩ = some (.int .u8 0) := BX3.out.cell 4
    have x5 : w3.cell? ⟨w.heap.size, 5, none⟩ = some (.slice none 0 0) := BX3.out.cell 5
    have x6 : w3.cell? ⟨w.heap.size, 6, none⟩ = some (.slice none 0 0) := BX3.out.cell 6
    have f0 := BX3.out.frozen 0
    have f1 := BX3.out.frozen 1
    have f2 := BX3.out.frozen 2
    have f3 := BX3.out.frozen 3
    have f4 := BX3.out.frozen 4
    have f5 := BX3.out.frozen 5
    have f6 := BX3.out.frozen 6
    have xl := BX3.out.lt
    go_wp2_with fail
    have hE7 := end7 (a := .int .u8 0) (b := .int .i64 0) (c := .int .i64 0) (d := .int .i64 0) (e := .int .u8 0) (f := .slice none 0 0) (g := .slice none 0 0) BX3.out
    have hbE := below7 (a := .int .u8 0) (b := .int .i64 0) (c := .int .i64 0) (d := .int .i64 0) (e := .int .u8 0) (f := .slice none 0 0) (g := .slice none 0 0) HB3.out (Nat.le_refl w.heap.size)
    have hfE := fx7 w3 w.heap.size (.int .u8 0) (.int .i64 0) (.int .i64 0) (.int .i64 0) (.int .u8 0) (.slice none 0 0) (.slice none 0 0)
    refine (show (∀ WE, Box WE w.heap.size #[.int .u8 0, .int .i64 0, .int .i64 0, .int .i64 0, .int .u8 0, .slice none 0 0, .slice none 0 0] 29 → Below w.heap.size w WE → Fx (fun g => g = w.heap.size) w3 WE → bodyPost Tryz.prog _ (RetRc w line) Exit.ret _ WE) → _ from fun H => H _ hE7 hbE hfE) ?_
    clear hE7 hbE hfE
    intro WE hE7 hbE hfE
    have ze0 := hE7.cell 0
    have ze1 := hE7.cell 1
    have ze2 := hE7.cell 2
    have ze3 := hE7.cell 3
    have ze4 := hE7.cell 4
    have ze5 := hE7.cell 5
    have ze6 := hE7.cell 6
    refine bodyPost_ret (v := .tuple #[.agg #[.int .u8 0, .int .i64 0, .int .i64 0, .int .i64 0, .int .u8 0, .slice none 0 0, .slice none 0 0], .int .i64 17]) (by simp [results, Tryz.results36, go_sem, ze0, ze1, ze2, ze3, ze4, ze5, ze6]) rfl ?_
    exact rec_end HF.out hbE
  subst hks
  have HR3 : Hid (recP line = ((match parsedF a with
        | none => (Rec.none, 4)
        | some (wd, l) => if doneB (recW (kindW wd) l).2 = true ∧ lineF (recW (kindW wd) l).1 = (line ++ [10], 0) then ((recW (kindW wd) l).1, 0) else (Rec.none, 4)) : Rec × Int)) := by
    show _ = _
    rw [HR2.out, if_neg (by simp)]
  clear HR2
  rintro e w3 ⟨rfl, hb3⟩
  have HB3 : Hid (Below w.heap.size w w3) := HB2.out.trans (hb3.mono HB2.out.size)
  have BX3 := Lib.hid (BX2.out.after hb3)
  clear hb3
  go_wp2_with fail
  refine (parsed_c w3 a (by have := HA.out; omega) (HE.out.after HB3.out)).mono ?_
  rintro e w4 (⟨hp, rfl, hb4⟩ | ⟨wd, l, vl, hp, rfl, hvl, hb4⟩)
  · have HF : Hid (recP line = (Rec.none, 4)) := by
      show _ = _
      rw [HR3.out, hp]
    have HB4 : Hid (Below w.heap.size w w4) := HB3.out.trans (hb4.mono HB3.out.size)
    have BX4 := Lib.hid (BX3.out.after hb4)
    clear hb4 hp
    have x0 : w4.cell? ⟨w.heap.size, 0, none⟩ = some (.int .u8 0) := BX4.out.cell 0
    have x1 : w4.cell? ⟨w.heap.size, 1, none⟩ = some (.int .i64 0) := BX4.out.cell 1
    have x2 : w4.cell? ⟨w.heap.size, 2, none⟩ = some (.int .i64 0) := BX4.out.cell 2
    have x3 : w4.cell? ⟨w.heap.size, 3, none⟩ = some (.int .i64 0) := BX4.out.cell 3
    have x4 : w4.cell? ⟨w.heap.size, 4, none⟩ = some (.int .u8 0) := BX4.out.cell 4
    have x5 : w4.cell? ⟨w.heap.size, 5, none⟩ = some (.slice none 0 0) := BX4.out.cell 5
    have x6 : w4.cell? ⟨w.heap.size, 6, none⟩ = some (.slice none 0 0) := BX4.out.cell 6
    have f0 := BX4.out.frozen 0
    have f1 := BX4.out.frozen 1
    have f2 := BX4.out.frozen 2
    have f3 := BX4.out.frozen 3
    have f4 := BX4.out.frozen 4
    have f5 := BX4.out.frozen 5
    have f6 := BX4.out.frozen 6
    have xl := BX4.out.lt
    go_wp2_with fail
    have hE7 := end7 (a := .int .u8 0) (b := .int .i64 0) (c := .int .i64 0) (d := .int .i64 0) (e := .int .u8 0) (f := .slice none 0 0) (g := .slice none 0 0) BX4.out
    have hbE := below7 (a := .int .u8 0) (b := .int .i64 0) (c := .int .i64 0) (d := .int .i64 0) (e := .int .u8 0) (f := .slice none 0 0) (g := .slice none 0 0) HB4.out (Nat.le_refl w.heap.size)
    have hfE := fx7 w4 w.heap.size (.int .u8 0) (.int .i64 0) (.int .i64 0) (.int .i64 0) (.int .u8 0) (.slice none 0 0) (.slice none 0 0)
    refine (show (∀ WE, Box WE w.heap.size #[.int .u8 0, .int .i64 0, .int .i64 0, .int .i64 0, .int .u8 0, .slice none 0 0, .slice none 0 0] 29 → Below w.heap.size w WE → Fx (fun g => g = w.heap.size) w4 WE → bodyPost Tryz.prog _ (RetRc w line) Exit.ret _ WE) → _ from fun H => H _ hE7 hbE hfE) ?_
    clear hE7 hbE hfE
    intro WE hE7 hbE hfE
    have ze0 := hE7.cell 0
    have ze1 := hE7.cell 1
    have ze2 := hE7.cell 2
    have ze3 := hE7.cell 3
    have ze4 := hE7.cell 4
    have ze5 := hE7.cell 5
    have ze6 := hE7.cell 6
    refine bodyPost_ret (v := .tuple #[.agg #[.int .u8 0, .int .i64 0, .int .i64 0, .int .i64 0, .int .u8 0, .slice none 0 0, .slice none 0 0], .int .i64 4]) (by simp [results, Tryz.results36, go_sem, ze0, ze1, ze2, ze3, ze4, ze5, ze6]) rfl ?_
    exact rec_end HF.out hbE
  have HR4 : Hid (recP line = ((if doneB (recW (kindW wd) l).2 = true ∧ lineF (recW (kindW wd) l).1 = (line ++ [10], 0) then ((recW (kindW wd) l).1, 0) else (Rec.none, 4)) : Rec × Int)) := by
    show _ = _
    rw [HR3.out, hp]
  have HB4 : Hid (Below w.heap.size w w4) := HB3.out.trans (hb4.mono HB3.out.size)
  have BX4 := Lib.hid (BX3.out.after hb4)
  have HVL := Lib.hid hvl
  clear hb4 hp HR3 hvl
  go_wp2_with fail
  refine (taker_c w4 vl l HVL.out).mono ?_
  rintro e w5 ⟨Bl, Bm, hBl, hBm, rfl, hT5, hb5⟩
  have HB5 : Hid (Below w.heap.size w w5) := HB4.out.trans (hb5.mono HB4.out.size)
  have BX5 := Lib.hid (BX4.out.after hb5)
  have T5 := Lib.hid hT5
  have HLB : Hid (w.heap.size < Bl ∧ w.heap.size < Bm) := by have := BX4.out.lt; exact ⟨by omega, by omega⟩
  obtain ⟨wb, wo, wc, e1, e2, e3, e4, e5⟩ := (HE.out.after HB5.out).2.2
  have lg : 0 < w5.heap.size := World.block_lt_of_cell? _ _ e1
  have HW5 := Lib.hid (index_c w5 wb wo wc wd e2 e4 e5)
  clear hb5 hT5 hBl hBm e2 e3 e4 e5
  go_wp2_with fail
  refine HW5.out.mono ?_
  rintro e w6 ⟨rfl, hb6⟩
  have HB6 : Hid (Below w.heap.size w w6) := HB5.out.trans (hb6.mono HB5.out.size)
  have BX6 := Lib.hid (BX5.out.after hb6)
  have T6 := Lib.hid (T5.out.after hb6)
  obtain ⟨ik1, ik2⟩ := idx_kind wd
  obtain ⟨K, hK⟩ : ∃ K, kindW wd = K := ⟨_, rfl⟩
  rw [hK] at ik1 ik2 HR4
  obtain ⟨iz, hiz⟩ : ∃ iz, idxW wd = iz := ⟨_, rfl⟩
  rw [hiz] at ik1 ⊢
  have HIK := Lib.hid ik1
  have HIK2 := Lib.hid ik2
  clear hb6 hK hiz HW5 e1 lg
  have hwrap : IntKind.u8.wrap (K : Int) = (K : Int) := by rw [wrap_8]; omega
  obtain ⟨W7, hW7⟩ : ∃ W7, W7 = w6.alloc (.cells #[.int .u8 (K : Int), .int .i64 0, .int .i64 0, .int .i64 0, .int .u8 0, .slice none 0 0, .slice none 0 0] 29) := ⟨_, rfl⟩
  have hb7 : Below w6.heap.size w6 W7 := by rw [hW7]; exact held_alloc (Below.refl _ _)
  have BXR7 : Hid (Box W7 w6.heap.size #[.int .u8 (K : Int), .int .i64 0, .int .i64 0, .int .i64 0, .int .u8 0, .slice none 0 0, .slice none 0 0] 29) := by rw [hW7]; exact Box.new _ _ _
  have HB7 : Hid (Below w.heap.size w W7) := HB6.out.trans (hb7.mono HB6.out.size)
  have BX7 := Lib.hid (BX6.out.after hb7)
  have T7 := Lib.hid (T6.out.after hb7)
  have HRL : Hid (Bl < w6.heap.size ∧ Bm < w6.heap.size ∧ w.heap.size < w6.heap.size) := ⟨T6.out.lt.1, T6.out.lt.2, BX6.out.lt⟩
  obtain ⟨q, s', hqs⟩ : ∃ q s', recW K l = (q, s') := ⟨_, _, rfl⟩
  have HQS := Lib.hid hqs
  have HR9 : Hid (recP line = ((if doneB s' = true ∧ lineF q = (line ++ [10], 0) then (q, 0) else (Rec.none, 4)) : Rec × Int)) := by
    show _ = _
    rw [HR4.out, hqs]
  obtain ⟨tl, htl⟩ : ∃ tl, line ++ [10] = tl := ⟨_, rfl⟩
  rw [htl] at HR9
  have hcat : bs line ++ (⟨#[10]⟩ : ByteArray) = bs tl := by rw [← htl]; exact append_bs line [10]
  have hlz := bs_size line
  clear HR4 hqs htl hb7 T6 BX6 BX5 BX4 BX3 BX2 BX1 BX T5
  go_upto_region 12 with fail
  rw [← hW7]
  clear hW7
  have r0 : W7.cell? ⟨w6.heap.size, 0, none⟩ = some (.int .u8 (K : Int)) := BXR7.out.cell 0
  have rl := BXR7.out.lt
  by_cases hk1 : K = 1
  · have qk1 : ((K : Int) == 1) = true := by rw [beq_iff_eq]; omega
    obtain ⟨ss, ls, s'', hpl⟩ : ∃ ss ls s'', planN (l, false) = ((ss, ls), s'') := ⟨_, _, _, rfl⟩
    have HQQ : Hid (q = ⟨K, 0, 0, 0, 0, ss, ls⟩ ∧ s' = s'') := by
      have h := HQS.out
      rw [hk1] at h ⊢
      unfold recW at h
      rw [hpl] at h
      obtain ⟨h1, h2⟩ := Prod.mk.inj h
      exact ⟨h1.symm, h2.symm⟩
    have HPL := Lib.hid hpl
    clear hk1 hpl
    go_wp2_with fail
    refine (plan_c W7 Bl Bm (l, false) T7.out).mono ?_
    rintro e w8 ⟨vs, va, rfl, hs8, ha8, hT8, hf8⟩
    rw [HPL.out] at hs8 ha8 hT8
    dsimp only at hs8 ha8 hT8
    obtain ⟨pS, cS, rfl, _⟩ := hs8.1.2.shape
    obtain ⟨uL, huL, _⟩ := id ha8.1
    obtain ⟨pL, cL, rfl, _⟩ := huL.shape
    clear huL
    obtain ⟨lS, hlS⟩ : ∃ lS, ss.length = lS := ⟨_, rfl⟩
    obtain ⟨lL, hlL⟩ : ∃ lL, ls.length = lL := ⟨_, rfl⟩
    rw [hlS] at hs8 ⊢
    rw [hlL] at ha8 ⊢
    have HS8 := Lib.hid hs8
    have HA8 := Lib.hid ha8
    have T8 : Hid (TkAt w8 Bl Bm s') := by rw [HQQ.out.2]; exact hT8
    have HB8 : Hid (Below w.heap.size w w8) := HB7.out.trans (hf8.toBelow HB7.out.size (fun b e => by have := HLB.out; rcases e with e | e <;> omega))
    have BX8 : Hid (Box w8 w.heap.size #[.int .u8 0, .int .i64 0, .int .i64 0, .int .i64 0, .int .u8 0, .slice none 0 0, .slice none 0 0] 29) := BX7.out.fx hf8 (by rintro (e | e) <;> have := HLB.out <;> omega)
    have BXR8 : Hid (Box w8 w6.heap.size #[.int .u8 (K : Int), .int .i64 0, .int .i64 0, .int .i64 0, .int .u8 0, .slice none 0 0, .slice none 0 0] 29) := BXR7.out.fx hf8 (by rintro (e | e) <;> have := HRL.out <;> omega)
    clear hlS hlL hs8 ha8 hT8 hf8 r0 rl
    have r5 : w8.cell? ⟨w6.heap.size, 5, none⟩ = some (.slice none 0 0) := BXR8.out.cell 5
    have r6 : w8.cell? ⟨w6.heap.size, 6, none⟩ = some (.slice none 0 0) := BXR8.out.cell 6
    have f5 := BXR8.out.frozen 5
    have f6 := BXR8.out.frozen 6
    have rl := BXR8.out.lt
    have hbxr : Box ((w8.setCell ⟨w6.heap.size, 5, none⟩ (.slice pS lS cS)).setCell ⟨w6.heap.size, 6, none⟩ (.slice pL lL cL)) w6.heap.size #[.int .u8 (K : Int), .int .i64 0, .int .i64 0, .int .i64 0, .int .u8 0, .slice pS lS cS, .slice pL lL cL] 29 := by
      have h := (BXR8.out.set 5 (.slice pS lS cS)).set 6 (.slice pL lL cL)
      simpa using h
    obtain ⟨W9, hW9⟩ : ∃ W9, W9 = (w8.setCell ⟨w6.heap.size, 5, none⟩ (.slice pS lS cS)).setCell ⟨w6.heap.size, 6, none⟩ (.slice pL lL cL) := ⟨_, rfl⟩
    have hf9 : Fx (fun g => g = w6.heap.size) w8 W9 := by rw [hW9]; exact (Fx.set w8 _ 5 _).trans (Fx.set _ _ 6 _)
    have BXR9 : Hid (Box W9 w6.heap.size #[.int .u8 (K : Int), .int .i64 0, .int .i64 0, .int .i64 0, .int .u8 0, .slice pS lS cS, .slice pL lL cL] 29) := by rw [hW9]; exact hbxr
    have hno : ∀ t, t ≠ 29 → NoT (fun g => g = w6.heap.size) w8 t := fun t ht b e k => by subst e; exact ht (k.one BXR8.out.tag)
    have HQ9 : Hid (IsRT W9 (.agg #[.int .u8 (K : Int), .int .i64 0, .int .i64 0, .int .i64 0, .int .u8 0, .slice pS lS cS, .slice pL lL cL]) q) := by
      rw [HQQ.out.1]
      exact ⟨⟨by have := HIK2.out; show K < 256; omega, by constructor <;> simp, by constructor <;> simp, by constructor <;> simp, by simp⟩, _, _, rfl, HS8.out.fx hf9 (hno _ (by decide)), HA8.out.fx hf9 (hno _ (by decide)) (hno _ (by decide))⟩
    have HT9 : Hid (TkAt W9 Bl Bm s') := T8.out.fx hf9 (fun e => by have := HRL.out; omega) (fun e => by have := HRL.out; omega) (hno _ (by decide))
    have BX9 : Hid (Box W9 w.heap.size #[.int .u8 0, .int .i64 0, .int .i64 0, .int .i64 0, .int .u8 0, .slice none 0 0, .slice none 0 0] 29) := BX8.out.fx hf9 (fun e => by have := HRL.out; omega)
    have HB9 : Hid (Below w.heap.size w W9) := HB8.out.trans (hf9.toBelow HB8.out.size (fun b e => by have := HRL.out; omega))
    clear hbxr hno hf9
    go_upto_region 19 with fail
    rw [← hW9]
    clear hW9 r5 r6 f5 f6 rl
    have r0 : W9.cell? ⟨w6.heap.size, 0, none⟩ = some (.int .u8 (K : Int)) := BXR9.out.cell 0
    have r1 : W9.cell? ⟨w6.heap.size, 1, none⟩ = some (.int .i64 0) := BXR9.out.cell 1
    have r2 : W9.cell? ⟨w6.heap.size, 2, none⟩ = some (.int .i64 0) := BXR9.out.cell 2
    have r3 : W9.cell? ⟨w6.heap.size, 3, none⟩ = some (.int .i64 0) := BXR9.out.cell 3
    have r4 : W9.cell? ⟨w6.heap.size, 4, none⟩ = some (.int .u8 0) := BXR9.out.cell 4
    have r5 : W9.cell? ⟨w6.heap.size, 5, none⟩ = some (.slice pS lS cS) := BXR9.out.cell 5
    have r6 : W9.cell? ⟨w6.heap.size, 6, none⟩ = some (.slice pL lL cL) := BXR9.out.cell 6
    have rl := BXR9.out.lt
    go_wp2_with fail
    refine (Line_c W9 _ q HQ9.out.is (HE.out.after HB9.out)).mono ?_
    obtain ⟨st, er, hln⟩ : ∃ st er, lineF q = (st, er) := ⟨_, _, rfl⟩
    have HLN := Lib.hid hln
    unfold RetL
    rw [hln]
    clear hln
    rintro e w10 ⟨rfl, hb10⟩
    have HB10 : Hid (Below w.heap.size w w10) := HB9.out.trans (hb10.mono HB9.out.size)
    have BX10 := Lib.hid (BX9.out.after hb10)
    have BXR10 := Lib.hid (BXR9.out.after hb10)
    have HQ10 := Lib.hid (HQ9.out.after hb10)
    have HT10 := Lib.hid (HT9.out.after hb10)
    clear hb10 BX9 BXR9 HQ9 HT9 r0 r1 r2 r3 r4 r5 r6 rl
    dsimp only
    go_wp2_with fail
    refine (done_c w10 Bl Bm s' HT10.out).mono ?_
    obtain ⟨dn, hdn⟩ : ∃ dn, doneB s' = dn := ⟨_, rfl⟩
    have HDN := Lib.hid hdn
    rw [hdn]
    clear hdn
    unfold RetB
    rintro e w11 ⟨rfl, hb11⟩
    have HB11 : Hid (Below w.heap.size w w11) := HB10.out.trans (hb11.mono HB10.out.size)
    have BX11 := Lib.hid (BX10.out.after hb11)
    have BXR11 := Lib.hid (BXR10.out.after hb11)
    have HQ11 := Lib.hid (HQ10.out.after hb11)
    clear hb11 BX10 BXR10 HQ10 HT10
    cases dn with
    | false =>
      have HF : Hid (recP line = (Rec.none, 4)) := by
        show _ = _
        rw [HR9.out, HDN.out, if_neg (by simp)]
      have x0 : w11.cell? ⟨w.heap.size, 0, none⟩ = some (.int .u8 0) := BX11.out.cell 0
      have x1 : w11.cell? ⟨w.heap.size, 1, none⟩ = some (.int .i64 0) := BX11.out.cell 1
      have x2 : w11.cell? ⟨w.heap.size, 2, none⟩ = some (.int .i64 0) := BX11.out.cell 2
      have x3 : w11.cell? ⟨w.heap.size, 3, none⟩ = some (.int .i64 0) := BX11.out.cell 3
      have x4 : w11.cell? ⟨w.heap.size, 4, none⟩ = some (.int .u8 0) := BX11.out.cell 4
      have x5 : w11.cell? ⟨w.heap.size, 5, none⟩ = some (.slice none 0 0) := BX11.out.cell 5
      have x6 : w11.cell? ⟨w.heap.size, 6, none⟩ = some (.slice none 0 0) := BX11.out.cell 6
      have f0 := BX11.out.frozen 0
      have f1 := BX11.out.frozen 1
      have f2 := BX11.out.frozen 2
      have f3 := BX11.out.frozen 3
      have f4 := BX11.out.frozen 4
      have f5 := BX11.out.frozen 5
      have f6 := BX11.out.frozen 6
      have xl := BX11.out.lt
      go_wp2_with fail
      have hE7 := end7 (a := .int .u8 0) (b := .int .i64 0) (c := .int .i64 0) (d := .int .i64 0) (e := .int .u8 0) (f := .slice none 0 0) (g := .slice none 0 0) BX11.out
      have hbE := below7 (a := .int .u8 0) (b := .int .i64 0) (c := .int .i64 0) (d := .int .i64 0) (e := .int .u8 0) (f := .slice none 0 0) (g := .slice none 0 0) HB11.out (Nat.le_refl w.heap.size)
      have hfE := fx7 w11 w.heap.size (.int .u8 0) (.int .i64 0) (.int .i64 0) (.int .i64 0) (.int .u8 0) (.slice none 0 0) (.slice none 0 0)
      refine (show (∀ WE, Box WE w.heap.size #[.int .u8 0, .int .i64 0, .int .i64 0, .int .i64 0, .int .u8 0, .slice none 0 0, .slice none 0 0] 29 → Below w.heap.size w WE → Fx (fun g => g = w.heap.size) w11 WE → bodyPost Tryz.prog _ (RetRc w line) Exit.ret _ WE) → _ from fun H => H _ hE7 hbE hfE) ?_
      clear hE7 hbE hfE
      intro WE hE7 hbE hfE
      have ze0 := hE7.cell 0
      have ze1 := hE7.cell 1
      have ze2 := hE7.cell 2
      have ze3 := hE7.cell 3
      have ze4 := hE7.cell 4
      have ze5 := hE7.cell 5
      have ze6 := hE7.cell 6
      refine bodyPost_ret (v := .tuple #[.agg #[.int .u8 0, .int .i64 0, .int .i64 0, .int .i64 0, .int .u8 0, .slice none 0 0, .slice none 0 0], .int .i64 4]) (by simp [results, Tryz.results36, go_sem, ze0, ze1, ze2, ze3, ze4, ze5, ze6]) rfl ?_
      exact rec_end HF.out hbE
    | true =>
      by_cases her : er = 0
      rotate_left
      · have HF : Hid (recP line = (Rec.none, 4)) := by
          show _ = _
          rw [HR9.out, HLN.out, if_neg]
          rintro ⟨_, h⟩
          exact her (Prod.mk.inj h).2
        have p1 : (er == 0) = false := by rw [beq_eq_false_iff_ne]; exact her
        have p2 : (er != 0) = true := by rw [bne, p1]; rfl
        clear her
        have x0 : w11.cell? ⟨w.heap.size, 0, none⟩ = some (.int .u8 0) := BX11.out.cell 0
        have x1 : w11.cell? ⟨w.heap.size, 1, none⟩ = some (.int .i64 0) := BX11.out.cell 1
        have x2 : w11.cell? ⟨w.heap.size, 2, none⟩ = some (.int .i64 0) := BX11.out.cell 2
        have x3 : w11.cell? ⟨w.heap.size, 3, none⟩ = some (.int .i64 0) := BX11.out.cell 3
        have x4 : w11.cell? ⟨w.heap.size, 4, none⟩ = some (.int .u8 0) := BX11.out.cell 4
        have x5 : w11.cell? ⟨w.heap.size, 5, none⟩ = some (.slice none 0 0) := BX11.out.cell 5
        have x6 : w11.cell? ⟨w.heap.size, 6, none⟩ = some (.slice none 0 0) := BX11.out.cell 6
        have f0 := BX11.out.frozen 0
        have f1 := BX11.out.frozen 1
        have f2 := BX11.out.frozen 2
        have f3 := BX11.out.frozen 3
        have f4 := BX11.out.frozen 4
        have f5 := BX11.out.frozen 5
        have f6 := BX11.out.frozen 6
        have xl := BX11.out.lt
        go_wp2_with fail
        have hE7 := end7 (a := .int .u8 0) (b := .int .i64 0) (c := .int .i64 0) (d := .int .i64 0) (e := .int .u8 0) (f := .slice none 0 0) (g := .slice none 0 0) BX11.out
        have hbE := below7 (a := .int .u8 0) (b := .int .i64 0) (c := .int .i64 0) (d := .int .i64 0) (e := .int .u8 0) (f := .slice none 0 0) (g := .slice none 0 0) HB11.out (Nat.le_refl w.heap.size)
        have hfE := fx7 w11 w.heap.size (.int .u8 0) (.int .i64 0) (.int .i64 0) (.int .i64 0) (.int .u8 0) (.slice none 0 0) (.slice none 0 0)
        refine (show (∀ WE, Box WE w.heap.size #[.int .u8 0, .int .i64 0, .int .i64 0, .int .i64 0, .int .u8 0, .slice none 0 0, .slice none 0 0] 29 → Below w.heap.size w WE → Fx (fun g => g = w.heap.size) w11 WE → bodyPost Tryz.prog _ (RetRc w line) Exit.ret _ WE) → _ from fun H => H _ hE7 hbE hfE) ?_
        clear hE7 hbE hfE
        intro WE hE7 hbE hfE
        have ze0 := hE7.cell 0
        have ze1 := hE7.cell 1
        have ze2 := hE7.cell 2
        have ze3 := hE7.cell 3
        have ze4 := hE7.cell 4
        have ze5 := hE7.cell 5
        have ze6 := hE7.cell 6
        refine bodyPost_ret (v := .tuple #[.agg #[.int .u8 0, .int .i64 0, .int .i64 0, .int .i64 0, .int .u8 0, .slice none 0 0, .slice none 0 0], .int .i64 4]) (by simp [results, Tryz.results36, go_sem, ze0, ze1, ze2, ze3, ze4, ze5, ze6]) rfl ?_
        exact rec_end HF.out hbE
      subst her
      have hsv := bs_eqv st tl
      by_cases hst : st = tl
      rotate_left
      · have HF : Hid (recP line = (Rec.none, 4)) := by
          show _ = _
          rw [HR9.out, HLN.out, if_neg]
          rintro ⟨_, h⟩
          exact hst (Prod.mk.inj h).1
        have p1 : ((bs st).toList == (bs tl).toList) = false := by rw [hsv]; exact decide_eq_false hst
        have p2 : ((bs st).toList != (bs tl).toList) = true := by rw [bne, p1]; rfl
        clear hst hsv
        have x0 : w11.cell? ⟨w.heap.size, 0, none⟩ = some (.int .u8 0) := BX11.out.cell 0
        have x1 : w11.cell? ⟨w.heap.size, 1, none⟩ = some (.int .i64 0) := BX11.out.cell 1
        have x2 : w11.cell? ⟨w.heap.size, 2, none⟩ = some (.int .i64 0) := BX11.out.cell 2
        have x3 : w11.cell? ⟨w.heap.size, 3, none⟩ = some (.int .i64 0) := BX11.out.cell 3
        have x4 : w11.cell? ⟨w.heap.size, 4, none⟩ = some (.int .u8 0) := BX11.out.cell 4
        have x5 : w11.cell? ⟨w.heap.size, 5, none⟩ = some (.slice none 0 0) := BX11.out.cell 5
        have x6 : w11.cell? ⟨w.heap.size, 6, none⟩ = some (.slice none 0 0) := BX11.out.cell 6
        have f0 := BX11.out.frozen 0
        have f1 := BX11.out.frozen 1
        have f2 := BX11.out.frozen 2
        have f3 := BX11.out.frozen 3
        have f4 := BX11.out.frozen 4
        have f5 := BX11.out.frozen 5
        have f6 := BX11.out.frozen 6
        have xl := BX11.out.lt
        go_wp2_with fail
        have hE7 := end7 (a := .int .u8 0) (b := .int .i64 0) (c := .int .i64 0) (d := .int .i64 0) (e := .int .u8 0) (f := .slice none 0 0) (g := .slice none 0 0) BX11.out
        have hbE := below7 (a := .int .u8 0) (b := .int .i64 0) (c := .int .i64 0) (d := .int .i64 0) (e := .int .u8 0) (f := .slice none 0 0) (g := .slice none 0 0) HB11.out (Nat.le_refl w.heap.size)
        have hfE := fx7 w11 w.heap.size (.int .u8 0) (.int .i64 0) (.int .i64 0) (.int .i64 0) (.int .u8 0) (.slice none 0 0) (.slice none 0 0)
        refine (show (∀ WE, Box WE w.heap.size #[.int .u8 0, .int .i64 0, .int .i64 0, .int .i64 0, .int .u8 0, .slice none 0 0, .slice none 0 0] 29 → Below w.heap.size w WE → Fx (fun g => g = w.heap.size) w11 WE → bodyPost Tryz.prog _ (RetRc w line) Exit.ret _ WE) → _ from fun H => H _ hE7 hbE hfE) ?_
        clear hE7 hbE hfE
        intro WE hE7 hbE hfE
        have ze0 := hE7.cell 0
        have ze1 := hE7.cell 1
        have ze2 := hE7.cell 2
        have ze3 := hE7.cell 3
        have ze4 := hE7.cell 4
        have ze5 := hE7.cell 5
        have ze6 := hE7.cell 6
        refine bodyPost_ret (v := .tuple #[.agg #[.int .u8 0, .int .i64 0, .int .i64 0, .int .i64 0, .int .u8 0, .slice none 0 0, .slice none 0 0], .int .i64 4]) (by simp [results, Tryz.results36, go_sem, ze0, ze1, ze2, ze3, ze4, ze5, ze6]) rfl ?_
        exact rec_end HF.out hbE
      have HF : Hid (recP line = (q, 0)) := by
        show _ = _
        rw [HR9.out, HLN.out, HDN.out, hst, if_pos ⟨rfl, rfl⟩]
      have p1 : ((bs st).toList == (bs tl).toList) = true := by rw [hsv]; exact decide_eq_true hst
      have p2 : ((bs st).toList != (bs tl).toList) = false := by rw [bne, p1]; rfl
      clear hst hsv
      have x0 : w11.cell? ⟨w.heap.size, 0, none⟩ = some (.int .u8 0) := BX11.out.cell 0
      have x1 : w11.cell? ⟨w.heap.size, 1, none⟩ = some (.int .i64 0) := BX11.out.cell 1
      have x2 : w11.cell? ⟨w.heap.size, 2, none⟩ = some (.int .i64 0) := BX11.out.cell 2
      have x3 : w11.cell? ⟨w.heap.size, 3, none⟩ = some (.int .i64 0) := BX11.out.cell 3
      have x4 : w11.cell? ⟨w.heap.size, 4, none⟩ = some (.int .u8 0) := BX11.out.cell 4
      have x5 : w11.cell? ⟨w.heap.size, 5, none⟩ = some (.slice none 0 0) := BX11.out.cell 5
      have x6 : w11.cell? ⟨w.heap.size, 6, none⟩ = some (.slice none 0 0) := BX11.out.cell 6
      have f0 := BX11.out.frozen 0
      have f1 := BX11.out.frozen 1
      have f2 := BX11.out.frozen 2
      have f3 := BX11.out.frozen 3
      have f4 := BX11.out.frozen 4
      have f5 := BX11.out.frozen 5
      have f6 := BX11.out.frozen 6
      have xl := BX11.out.lt
      have r0 : w11.cell? ⟨w6.heap.size, 0, none⟩ = some (.int .u8 (K : Int)) := BXR11.out.cell 0
      have r1 : w11.cell? ⟨w6.heap.size, 1, none⟩ = some (.int .i64 0) := BXR11.out.cell 1
      have r2 : w11.cell? ⟨w6.heap.size, 2, none⟩ = some (.int .i64 0) := BXR11.out.cell 2
      have r3 : w11.cell? ⟨w6.heap.size, 3, none⟩ = some (.int .i64 0) := BXR11.out.cell 3
      have r4 : w11.cell? ⟨w6.heap.size, 4, none⟩ = some (.int .u8 0) := BXR11.out.cell 4
      have r5 : w11.cell? ⟨w6.heap.size, 5, none⟩ = some (.slice pS lS cS) := BXR11.out.cell 5
      have r6 : w11.cell? ⟨w6.heap.size, 6, none⟩ = some (.slice pL lL cL) := BXR11.out.cell 6
      have rl := BXR11.out.lt
      go_wp2_with fail
      have hE7 := end7 (a := .int .u8 (K : Int)) (b := .int .i64 0) (c := .int .i64 0) (d := .int .i64 0) (e := .int .u8 0) (f := .slice pS lS cS) (g := .slice pL lL cL) BX11.out
      have hbE := below7 (a := .int .u8 (K : Int)) (b := .int .i64 0) (c := .int .i64 0) (d := .int .i64 0) (e := .int .u8 0) (f := .slice pS lS cS) (g := .slice pL lL cL) HB11.out (Nat.le_refl w.heap.size)
      have hfE := fx7 w11 w.heap.size (.int .u8 (K : Int)) (.int .i64 0) (.int .i64 0) (.int .i64 0) (.int .u8 0) (.slice pS lS cS) (.slice pL lL cL)
      refine (show (∀ WE, Box WE w.heap.size #[.int .u8 (K : Int), .int .i64 0, .int .i64 0, .int .i64 0, .int .u8 0, .slice pS lS cS, .slice pL lL cL] 29 → Below w.heap.size w WE → Fx (fun g => g = w.heap.size) w11 WE → bodyPost Tryz.prog _ (RetRc w line) Exit.ret _ WE) → _ from fun H => H _ hE7 hbE hfE) ?_
      clear hE7 hbE hfE
      intro WE hE7 hbE hfE
      have ze0 := hE7.cell 0
      have ze1 := hE7.cell 1
      have ze2 := hE7.cell 2
      have ze3 := hE7.cell 3
      have ze4 := hE7.cell 4
      have ze5 := hE7.cell 5
      have ze6 := hE7.cell 6
      refine bodyPost_ret (v := .tuple #[.agg #[.int .u8 (K : Int), .int .i64 0, .int .i64 0, .int .i64 0, .int .u8 0, .slice pS lS cS, .slice pL lL cL], .int .i64 0]) (by simp [results, Tryz.results36, go_sem, ze0, ze1, ze2, ze3, ze4, ze5, ze6]) rfl ?_
      have hq := HQ11.out.fx hfE (NoP.of BX11.out.tag (by decide) (by decide) (by decide))
      exact ⟨_, by rw [HF.out], by rw [HF.out]; exact hq, hbE⟩
  have qk1 : ((K : Int) == 1) = false := by rw [beq_eq_false_iff_ne]; omega
  by_cases hk2 : K = 2
  · have qk2 : ((K : Int) == 2) = true := by rw [beq_iff_eq]; omega
    obtain ⟨z1, sb, e1⟩ : ∃ z1 sb, nx (l, false) = (z1, sb) := ⟨_, _, rfl⟩
    have E1 := Lib.hid e1
    obtain ⟨z2, sc, e2⟩ : ∃ z2 sc, nx sb = (z2, sc) := ⟨_, _, rfl⟩
    have E2 := Lib.hid e2
    obtain ⟨z3, sd, e3⟩ : ∃ z3 sd, nx sc = (z3, sd) := ⟨_, _, rfl⟩
    have E3 := Lib.hid e3
    have HIN := Lib.hid (tk_step T7.out.all e1)
    have HIN2 := Lib.hid (tk_step HIN.out.2 e2)
    have HIN3 := Lib.hid (tk_step HIN2.out.2 e3)
    have HQQ : Hid (q = ⟨K, z1, z2, z3, 0, [], []⟩ ∧ s' = sd) := by
      have h := HQS.out
      rw [hk2] at h ⊢
      unfold recW at h
      simp only [E1.out, E2.out, E3.out] at h
      obtain ⟨h1, h2⟩ := Prod.mk.inj h
      exact ⟨h1.symm, h2.symm⟩
    clear hk2 e1 e2 e3
    go_wp2_with fail
    refine (next_c W7 Bl Bm (l, false) T7.out).mono ?_
    rintro e v0 ⟨rfl, hTv0, hfv0⟩
    rw [E1.out] at hTv0 ⊢
    dsimp only at hTv0 ⊢
    have Tv0 := Lib.hid hTv0
    have Fv0 := Lib.hid hfv0
    clear hTv0 hfv0 r0 rl
    go_wp2_with fail
    refine (next_c v0 Bl Bm sb Tv0.out).mono ?_
    rintro e v1 ⟨rfl, hTv1, hfv1⟩
    rw [E2.out] at hTv1 ⊢
    dsimp only at hTv1 ⊢
    have Tv1 := Lib.hid hTv1
    have Fv1 := Lib.hid (Fv0.out.trans hfv1)
    clear hTv1 hfv1
    go_wp2_with fail
    refine (next_c v1 Bl Bm sc Tv1.out).mono ?_
    rintro e w8 ⟨rfl, hTw8, hfw8⟩
    rw [E3.out] at hTw8 ⊢
    dsimp only at hTw8 ⊢
    have Tw8 := Lib.hid hTw8
    have Fw8 := Lib.hid (Fv1.out.trans hfw8)
    clear hTw8 hfw8
    have hf8 := Fw8.out
    have T8 : Hid (TkAt w8 Bl Bm s') := by rw [HQQ.out.2]; exact Tw8.out
    have HB8 : Hid (Below w.heap.size w w8) := HB7.out.trans (hf8.toBelow HB7.out.size (fun b e => by have := HLB.out; rcases e with e | e <;> omega))
    have BX8 : Hid (Box w8 w.heap.size #[.int .u8 0, .int .i64 0, .int .i64 0, .int .i64 0, .int .u8 0, .slice none 0 0, .slice none 0 0] 29) := BX7.out.fx hf8 (by rintro (e | e) <;> have := HLB.out <;> omega)
    have BXR8 : Hid (Box w8 w6.heap.size #[.int .u8 (K : Int), .int .i64 0, .int .i64 0, .int .i64 0, .int .u8 0, .slice none 0 0, .slice none 0 0] 29) := BXR7.out.fx hf8 (by rintro (e | e) <;> have := HRL.out <;> omega)
    clear hf8
    have r1 : w8.cell? ⟨w6.heap.size, 1, none⟩ = some (.int .i64 0) := BXR8.out.cell 1
    have f1 := BXR8.out.frozen 1
    have r2 : w8.cell? ⟨w6.heap.size, 2, none⟩ = some (.int .i64 0) := BXR8.out.cell 2
    have f2 := BXR8.out.frozen 2
    have r3 : w8.cell? ⟨w6.heap.size, 3, none⟩ = some (.int .i64 0) := BXR8.out.cell 3
    have f3 := BXR8.out.frozen 3
    have rl := BXR8.out.lt
    have hbxr : Box (((w8.setCell ⟨w6.heap.size, 1, none⟩ (.int .i64 z1)).setCell ⟨w6.heap.size, 2, none⟩ (.int .i64 z2)).setCell ⟨w6.heap.size, 3, none⟩ (.int .i64 z3)) w6.heap.size #[.int .u8 (K : Int), .int .i64 z1, .int .i64 z2, .int .i64 z3, .int .u8 0, .slice none 0 0, .slice none 0 0] 29 := by
      have h := (((BXR8.out.set 1 (.int .i64 z1)).set 2 (.int .i64 z2)).set 3 (.int .i64 z3))
      simpa using h
    obtain ⟨W9, hW9⟩ : ∃ W9, W9 = (((w8.setCell ⟨w6.heap.size, 1, none⟩ (.int .i64 z1)).setCell ⟨w6.heap.size, 2, none⟩ (.int .i64 z2)).setCell ⟨w6.heap.size, 3, none⟩ (.int .i64 z3)) := ⟨_, rfl⟩
    have hf9 : Fx (fun g => g = w6.heap.size) w8 W9 := by rw [hW9]; exact ((Fx.set w8 _ 1 _).trans (Fx.set _ _ 2 _)).trans (Fx.set _ _ 3 _)
    have BXR9 : Hid (Box W9 w6.heap.size #[.int .u8 (K : Int), .int .i64 z1, .int .i64 z2, .int .i64 z3, .int .u8 0, .slice none 0 0, .slice none 0 0] 29) := by rw [hW9]; exact hbxr
    have hno : ∀ t, t ≠ 29 → NoT (fun g => g = w6.heap.size) w8 t := fun t ht b e k => by subst e; exact ht (k.one BXR8.out.tag)
    have HQ9 : Hid (IsRT W9 (.agg #[.int .u8 (K : Int), .int .i64 z1, .int .i64 z2, .int .i64 z3, .int .u8 0, .slice none 0 0, .slice none 0 0]) q) := by
      rw [HQQ.out.1]
      exact ⟨⟨by have := HIK2.out; show K < 256; omega, HIN.out.1, HIN2.out.1, HIN3.out.1, by simp⟩, _, _, rfl, SlST.nil _, SlLT.nil _⟩
    have HT9 : Hid (TkAt W9 Bl Bm s') := T8.out.fx hf9 (fun e => by have := HRL.out; omega) (fun e => by have := HRL.out; omega) (hno _ (by decide))
    have BX9 : Hid (Box W9 w.heap.size #[.int .u8 0, .int .i64 0, .int .i64 0, .int .i64 0, .int .u8 0, .slice none 0 0, .slice none 0 0] 29) := BX8.out.fx hf9 (fun e => by have := HRL.out; omega)
    have HB9 : Hid (Below w.heap.size w W9) := HB8.out.trans (hf9.toBelow HB8.out.size (fun b e => by have := HRL.out; omega))
    clear hbxr hno hf9
    go_upto_region 19 with fail
    rw [← hW9]
    clear hW9 rl r1 f1 r2 f2 r3 f3
    have r0 : W9.cell? ⟨w6.heap.size, 0, none⟩ = some (.int .u8 (K : Int)) := BXR9.out.cell 0
    have r1 : W9.cell? ⟨w6.heap.size, 1, none⟩ = some (.int .i64 z1) := BXR9.out.cell 1
    have r2 : W9.cell? ⟨w6.heap.size, 2, none⟩ = some (.int .i64 z2) := BXR9.out.cell 2
    have r3 : W9.cell? ⟨w6.heap.size, 3, none⟩ = some (.int .i64 z3) := BXR9.out.cell 3
    have r4 : W9.cell? ⟨w6.heap.size, 4, none⟩ = some (.int .u8 0) := BXR9.out.cell 4
    have r5 : W9.cell? ⟨w6.heap.size, 5, none⟩ = some (.slice none 0 0) := BXR9.out.cell 5
    have r6 : W9.cell? ⟨w6.heap.size, 6, none⟩ = some (.slice none 0 0) := BXR9.out.cell 6
    have rl := BXR9.out.lt
    go_wp2_with fail
    refine (Line_c W9 _ q HQ9.out.is (HE.out.after HB9.out)).mono ?_
    obtain ⟨st, er, hln⟩ : ∃ st er, lineF q = (st, er) := ⟨_, _, rfl⟩
    have HLN := Lib.hid hln
    unfold RetL
    rw [hln]
    clear hln
    rintro e w10 ⟨rfl, hb10⟩
    have HB10 : Hid (Below w.heap.size w w10) := HB9.out.trans (hb10.mono HB9.out.size)
    have BX10 := Lib.hid (BX9.out.after hb10)
    have BXR10 := Lib.hid (BXR9.out.after hb10)
    have HQ10 := Lib.hid (HQ9.out.after hb10)
    have HT10 := Lib.hid (HT9.out.after hb10)
    clear hb10 BX9 BXR9 HQ9 HT9 r0 r1 r2 r3 r4 r5 r6 rl
    dsimp only
    go_wp2_with fail
    refine (done_c w10 Bl Bm s' HT10.out).mono ?_
    obtain ⟨dn, hdn⟩ : ∃ dn, doneB s' = dn := ⟨_, rfl⟩
    have HDN := Lib.hid hdn
    rw [hdn]
    clear hdn
    unfold RetB
    rintro e w11 ⟨rfl, hb11⟩
    have HB11 : Hid (Below w.heap.size w w11) := HB10.out.trans (hb11.mono HB10.out.size)
    have BX11 := Lib.hid (BX10.out.after hb11)
    have BXR11 := Lib.hid (BXR10.out.after hb11)
    have HQ11 := Lib.hid (HQ10.out.after hb11)
    clear hb11 BX10 BXR10 HQ10 HT10
    cases dn with
    | false =>
      have HF : Hid (recP line = (Rec.none, 4)) := by
        show _ = _
        rw [HR9.out, HDN.out, if_neg (by simp)]
      have x0 : w11.cell? ⟨w.heap.size, 0, none⟩ = some (.int .u8 0) := BX11.out.cell 0
      have x1 : w11.cell? ⟨w.heap.size, 1, none⟩ = some (.int .i64 0) := BX11.out.cell 1
      have x2 : w11.cell? ⟨w.heap.size, 2, none⟩ = some (.int .i64 0) := BX11.out.cell 2
      have x3 : w11.cell? ⟨w.heap.size, 3, none⟩ = some (.int .i64 0) := BX11.out.cell 3
      have x4 : w11.cell? ⟨w.heap.size, 4, none⟩ = some (.int .u8 0) := BX11.out.cell 4
      have x5 : w11.cell? ⟨w.heap.size, 5, none⟩ = some (.slice none 0 0) := BX11.out.cell 5
      have x6 : w11.cell? ⟨w.heap.size, 6, none⟩ = some (.slice none 0 0) := BX11.out.cell 6
      have f0 := BX11.out.frozen 0
      have f1 := BX11.out.frozen 1
      have f2 := BX11.out.frozen 2
      have f3 := BX11.out.frozen 3
      have f4 := BX11.out.frozen 4
      have f5 := BX11.out.frozen 5
      have f6 := BX11.out.frozen 6
      have xl := BX11.out.lt
      go_wp2_with fail
      have hE7 := end7 (a := .int .u8 0) (b := .int .i64 0) (c := .int .i64 0) (d := .int .i64 0) (e := .int .u8 0) (f := .slice none 0 0) (g := .slice none 0 0) BX11.out
      have hbE := below7 (a := .int .u8 0) (b := .int .i64 0) (c := .int .i64 0) (d := .int .i64 0) (e := .int .u8 0) (f := .slice none 0 0) (g := .slice none 0 0) HB11.out (Nat.le_refl w.heap.size)
      have hfE := fx7 w11 w.heap.size (.int .u8 0) (.int .i64 0) (.int .i64 0) (.int .i64 0) (.int .u8 0) (.slice none 0 0) (.slice none 0 0)
      refine (show (∀ WE, Box WE w.heap.size #[.int .u8 0, .int .i64 0, .int .i64 0, .int .i64 0, .int .u8 0, .slice none 0 0, .slice none 0 0] 29 → Below w.heap.size w WE → Fx (fun g => g = w.heap.size) w11 WE → bodyPost Tryz.prog _ (RetRc w line) Exit.ret _ WE) → _ from fun H => H _ hE7 hbE hfE) ?_
      clear hE7 hbE hfE
      intro WE hE7 hbE hfE
      have ze0 := hE7.cell 0
      have ze1 := hE7.cell 1
      have ze2 := hE7.cell 2
      have ze3 := hE7.cell 3
      have ze4 := hE7.cell 4
      have ze5 := hE7.cell 5
      have ze6 := hE7.cell 6
      refine bodyPost_ret (v := .tuple #[.agg #[.int .u8 0, .int .i64 0, .int .i64 0, .int .i64 0, .int .u8 0, .slice none 0 0, .slice none 0 0], .int .i64 4]) (by simp [results, Tryz.results36, go_sem, ze0, ze1, ze2, ze3, ze4, ze5, ze6]) rfl ?_
      exact rec_end HF.out hbE
    | true =>
      by_cases her : er = 0
      rotate_left
      · have HF : Hid (recP line = (Rec.none, 4)) := by
          show _ = _
          rw [HR9.out, HLN.out, if_neg]
          rintro ⟨_, h⟩
          exact her (Prod.mk.inj h).2
        have p1 : (er == 0) = false := by rw [beq_eq_false_iff_ne]; exact her
        have p2 : (er != 0) = true := by rw [bne, p1]; rfl
        clear her
        have x0 : w11.cell? ⟨w.heap.size, 0, none⟩ = some (.int .u8 0) := BX11.out.cell 0
        have x1 : w11.cell? ⟨w.heap.size, 1, none⟩ = some (.int .i64 0) := BX11.out.cell 1
        have x2 : w11.cell? ⟨w.heap.size, 2, none⟩ = some (.int .i64 0) := BX11.out.cell 2
        have x3 : w11.cell? ⟨w.heap.size, 3, none⟩ = some (.int .i64 0) := BX11.out.cell 3
        have x4 : w11.cell? ⟨w.heap.size, 4, none⟩ = some (.int .u8 0) := BX11.out.cell 4
        have x5 : w11.cell? ⟨w.heap.size, 5, none⟩ = some (.slice none 0 0) := BX11.out.cell 5
        have x6 : w11.cell? ⟨w.heap.size, 6, none⟩ = some (.slice none 0 0) := BX11.out.cell 6
        have f0 := BX11.out.frozen 0
        have f1 := BX11.out.frozen 1
        have f2 := BX11.out.frozen 2
        have f3 := BX11.out.frozen 3
        have f4 := BX11.out.frozen 4
        have f5 := BX11.out.frozen 5
        have f6 := BX11.out.frozen 6
        have xl := BX11.out.lt
        go_wp2_with fail
        have hE7 := end7 (a := .int .u8 0) (b := .int .i64 0) (c := .int .i64 0) (d := .int .i64 0) (e := .int .u8 0) (f := .slice none 0 0) (g := .slice none 0 0) BX11.out
        have hbE := below7 (a := .int .u8 0) (b := .int .i64 0) (c := .int .i64 0) (d := .int .i64 0) (e := .int .u8 0) (f := .slice none 0 0) (g := .slice none 0 0) HB11.out (Nat.le_refl w.heap.size)
        have hfE := fx7 w11 w.heap.size (.int .u8 0) (.int .i64 0) (.int .i64 0) (.int .i64 0) (.int .u8 0) (.slice none 0 0) (.slice none 0 0)
        refine (show (∀ WE, Box WE w.heap.size #[.int .u8 0, .int .i64 0, .int .i64 0, .int .i64 0, .int .u8 0, .slice none 0 0, .slice none 0 0] 29 → Below w.heap.size w WE → Fx (fun g => g = w.heap.size) w11 WE → bodyPost Tryz.prog _ (RetRc w line) Exit.ret _ WE) → _ from fun H => H _ hE7 hbE hfE) ?_
        clear hE7 hbE hfE
        intro WE hE7 hbE hfE
        have ze0 := hE7.cell 0
        have ze1 := hE7.cell 1
        have ze2 := hE7.cell 2
        have ze3 := hE7.cell 3
        have ze4 := hE7.cell 4
        have ze5 := hE7.cell 5
        have ze6 := hE7.cell 6
        refine bodyPost_ret (v := .tuple #[.agg #[.int .u8 0, .int .i64 0, .int .i64 0, .int .i64 0, .int .u8 0, .slice none 0 0, .slice none 0 0], .int .i64 4]) (by simp [results, Tryz.results36, go_sem, ze0, ze1, ze2, ze3, ze4, ze5, ze6]) rfl ?_
        exact rec_end HF.out hbE
      subst her
      have hsv := bs_eqv st tl
      by_cases hst : st = tl
      rotate_left
      · have HF : Hid (recP line = (Rec.none, 4)) := by
          show _ = _
          rw [HR9.out, HLN.out, if_neg]
          rintro ⟨_, h⟩
          exact hst (Prod.mk.inj h).1
        have p1 : ((bs st).toList == (bs tl).toList) = false := by rw [hsv]; exact decide_eq_false hst
        have p2 : ((bs st).toList != (bs tl).toList) = true := by rw [bne, p1]; rfl
        clear hst hsv
        have x0 : w11.cell? ⟨w.heap.size, 0, none⟩ = some (.int .u8 0) := BX11.out.cell 0
        have x1 : w11.cell? ⟨w.heap.size, 1, none⟩ = some (.int .i64 0) := BX11.out.cell 1
        have x2 : w11.cell? ⟨w.heap.size, 2, none⟩ = some (.int .i64 0) := BX11.out.cell 2
        have x3 : w11.cell? ⟨w.heap.size, 3, none⟩ = some (.int .i64 0) := BX11.out.cell 3
        have x4 : w11.cell? ⟨w.heap.size, 4, none⟩ = some (.int .u8 0) := BX11.out.cell 4
        have x5 : w11.cell? ⟨w.heap.size, 5, none⟩ = some (.slice none 0 0) := BX11.out.cell 5
        have x6 : w11.cell? ⟨w.heap.size, 6, none⟩ = some (.slice none 0 0) := BX11.out.cell 6
        have f0 := BX11.out.frozen 0
        have f1 := BX11.out.frozen 1
        have f2 := BX11.out.frozen 2
        have f3 := BX11.out.frozen 3
        have f4 := BX11.out.frozen 4
        have f5 := BX11.out.frozen 5
        have f6 := BX11.out.frozen 6
        have xl := BX11.out.lt
        go_wp2_with fail
        have hE7 := end7 (a := .int .u8 0) (b := .int .i64 0) (c := .int .i64 0) (d := .int .i64 0) (e := .int .u8 0) (f := .slice none 0 0) (g := .slice none 0 0) BX11.out
        have hbE := below7 (a := .int .u8 0) (b := .int .i64 0) (c := .int .i64 0) (d := .int .i64 0) (e := .int .u8 0) (f := .slice none 0 0) (g := .slice none 0 0) HB11.out (Nat.le_refl w.heap.size)
        have hfE := fx7 w11 w.heap.size (.int .u8 0) (.int .i64 0) (.int .i64 0) (.int .i64 0) (.int .u8 0) (.slice none 0 0) (.slice none 0 0)
        refine (show (∀ WE, Box WE w.heap.size #[.int .u8 0, .int .i64 0, .int .i64 0, .int .i64 0, .int .u8 0, .slice none 0 0, .slice none 0 0] 29 → Below w.heap.size w WE → Fx (fun g => g = w.heap.size) w11 WE → bodyPost Tryz.prog _ (RetRc w line) Exit.ret _ WE) → _ from fun H => H _ hE7 hbE hfE) ?_
        clear hE7 hbE hfE
        intro WE hE7 hbE hfE
        have ze0 := hE7.cell 0
        have ze1 := hE7.cell 1
        have ze2 := hE7.cell 2
        have ze3 := hE7.cell 3
        have ze4 := hE7.cell 4
        have ze5 := hE7.cell 5
        have ze6 := hE7.cell 6
        refine bodyPost_ret (v := .tuple #[.agg #[.int .u8 0, .int .i64 0, .int .i64 0, .int .i64 0, .int .u8 0, .slice none 0 0, .slice none 0 0], .int .i64 4]) (by simp [results, Tryz.results36, go_sem, ze0, ze1, ze2, ze3, ze4, ze5, ze6]) rfl ?_
        exact rec_end HF.out hbE
      have HF : Hid (recP line = (q, 0)) := by
        show _ = _
        rw [HR9.out, HLN.out, HDN.out, hst, if_pos ⟨rfl, rfl⟩]
      have p1 : ((bs st).toList == (bs tl).toList) = true := by rw [hsv]; exact decide_eq_true hst
      have p2 : ((bs st).toList != (bs tl).toList) = false := by rw [bne, p1]; rfl
      clear hst hsv
      have x0 : w11.cell? ⟨w.heap.size, 0, none⟩ = some (.int .u8 0) := BX11.out.cell 0
      have x1 : w11.cell? ⟨w.heap.size, 1, none⟩ = some (.int .i64 0) := BX11.out.cell 1
      have x2 : w11.cell? ⟨w.heap.size, 2, none⟩ = some (.int .i64 0) := BX11.out.cell 2
      have x3 : w11.cell? ⟨w.heap.size, 3, none⟩ = some (.int .i64 0) := BX11.out.cell 3
      have x4 : w11.cell? ⟨w.heap.size, 4, none⟩ = some (.int .u8 0) := BX11.out.cell 4
      have x5 : w11.cell? ⟨w.heap.size, 5, none⟩ = some (.slice none 0 0) := BX11.out.cell 5
      have x6 : w11.cell? ⟨w.heap.size, 6, none⟩ = some (.slice none 0 0) := BX11.out.cell 6
      have f0 := BX11.out.frozen 0
      have f1 := BX11.out.frozen 1
      have f2 := BX11.out.frozen 2
      have f3 := BX11.out.frozen 3
      have f4 := BX11.out.frozen 4
      have f5 := BX11.out.frozen 5
      have f6 := BX11.out.frozen 6
      have xl := BX11.out.lt
      have r0 : w11.cell? ⟨w6.heap.size, 0, none⟩ = some (.int .u8 (K : Int)) := BXR11.out.cell 0
      have r1 : w11.cell? ⟨w6.heap.size, 1, none⟩ = some (.int .i64 z1) := BXR11.out.cell 1
      have r2 : w11.cell? ⟨w6.heap.size, 2, none⟩ = some (.int .i64 z2) := BXR11.out.cell 2
      have r3 : w11.cell? ⟨w6.heap.size, 3, none⟩ = some (.int .i64 z3) := BXR11.out.cell 3
      have r4 : w11.cell? ⟨w6.heap.size, 4, none⟩ = some (.int .u8 0) := BXR11.out.cell 4
      have r5 : w11.cell? ⟨w6.heap.size, 5, none⟩ = some (.slice none 0 0) := BXR11.out.cell 5
      have r6 : w11.cell? ⟨w6.heap.size, 6, none⟩ = some (.slice none 0 0) := BXR11.out.cell 6
      have rl := BXR11.out.lt
      go_wp2_with fail
      have hE7 := end7 (a := .int .u8 (K : Int)) (b := .int .i64 z1) (c := .int .i64 z2) (d := .int .i64 z3) (e := .int .u8 0) (f := .slice none 0 0) (g := .slice none 0 0) BX11.out
      have hbE := below7 (a := .int .u8 (K : Int)) (b := .int .i64 z1) (c := .int .i64 z2) (d := .int .i64 z3) (e := .int .u8 0) (f := .slice none 0 0) (g := .slice none 0 0) HB11.out (Nat.le_refl w.heap.size)
      have hfE := fx7 w11 w.heap.size (.int .u8 (K : Int)) (.int .i64 z1) (.int .i64 z2) (.int .i64 z3) (.int .u8 0) (.slice none 0 0) (.slice none 0 0)
      refine (show (∀ WE, Box WE w.heap.size #[.int .u8 (K : Int), .int .i64 z1, .int .i64 z2, .int .i64 z3, .int .u8 0, .slice none 0 0, .slice none 0 0] 29 → Below w.heap.size w WE → Fx (fun g => g = w.heap.size) w11 WE → bodyPost Tryz.prog _ (RetRc w line) Exit.ret _ WE) → _ from fun H => H _ hE7 hbE hfE) ?_
      clear hE7 hbE hfE
      intro WE hE7 hbE hfE
      have ze0 := hE7.cell 0
      have ze1 := hE7.cell 1
      have ze2 := hE7.cell 2
      have ze3 := hE7.cell 3
      have ze4 := hE7.cell 4
      have ze5 := hE7.cell 5
      have ze6 := hE7.cell 6
      refine bodyPost_ret (v := .tuple #[.agg #[.int .u8 (K : Int), .int .i64 z1, .int .i64 z2, .int .i64 z3, .int .u8 0, .slice none 0 0, .slice none 0 0], .int .i64 0]) (by simp [results, Tryz.results36, go_sem, ze0, ze1, ze2, ze3, ze4, ze5, ze6]) rfl ?_
      have hq := HQ11.out.fx hfE (NoP.of BX11.out.tag (by decide) (by decide) (by decide))
      exact ⟨_, by rw [HF.out], by rw [HF.out]; exact hq, hbE⟩
  have qk2 : ((K : Int) == 2) = false := by rw [beq_eq_false_iff_ne]; omega
  by_cases hk3 : K = 3
  · have qk3 : ((K : Int) == 3) = true := by rw [beq_iff_eq]; omega
    obtain ⟨z1, sb, e1⟩ : ∃ z1 sb, nx (l, false) = (z1, sb) := ⟨_, _, rfl⟩
    have E1 := Lib.hid e1
    obtain ⟨z2, sc, e2⟩ : ∃ z2 sc, nx sb = (z2, sc) := ⟨_, _, rfl⟩
    have E2 := Lib.hid e2
    have HIN := Lib.hid (tk_step T7.out.all e1)
    obtain ⟨an, han⟩ : ∃ an : Nat, (z2 % 256).toNat = an := ⟨_, rfl⟩
    have HAN := Lib.hid han
    have hwa : IntKind.u8.wrap z2 = (an : Int) := by rw [wrap_8]; omega
    have HAN2 : Hid (an < 256) := by show _ < _; omega
    clear han
    have HQQ : Hid (q = ⟨K, 0, z1, 0, an, [], []⟩ ∧ s' = sc) := by
      have h := HQS.out
      rw [hk3] at h ⊢
      unfold recW at h
      simp only [E1.out, E2.out] at h
      obtain ⟨h1, h2⟩ := Prod.mk.inj h
      exact ⟨by rw [← h1, HAN.out], h2.symm⟩
    clear hk3 e1 e2
    go_wp2_with fail
    refine (next_c W7 Bl Bm (l, false) T7.out).mono ?_
    rintro e v0 ⟨rfl, hTv0, hfv0⟩
    rw [E1.out] at hTv0 ⊢
    dsimp only at hTv0 ⊢
    have Tv0 := Lib.hid hTv0
    have Fv0 := Lib.hid hfv0
    clear hTv0 hfv0 r0 rl
    go_wp2_with fail
    refine (next_c v0 Bl Bm sb Tv0.out).mono ?_
    rintro e w8 ⟨rfl, hTw8, hfw8⟩
    rw [E2.out] at hTw8 ⊢
    dsimp only at hTw8 ⊢
    have Tw8 := Lib.hid hTw8
    have Fw8 := Lib.hid (Fv0.out.trans hfw8)
    clear hTw8 hfw8
    have hf8 := Fw8.out
    have T8 : Hid (TkAt w8 Bl Bm s') := by rw [HQQ.out.2]; exact Tw8.out
    have HB8 : Hid (Below w.heap.size w w8) := HB7.out.trans (hf8.toBelow HB7.out.size (fun b e => by have := HLB.out; rcases e with e | e <;> omega))
    have BX8 : Hid (Box w8 w.heap.size #[.int .u8 0, .int .i64 0, .int .i64 0, .int .i64 0, .int .u8 0, .slice none 0 0, .slice none 0 0] 29) := BX7.out.fx hf8 (by rintro (e | e) <;> have := HLB.out <;> omega)
    have BXR8 : Hid (Box w8 w6.heap.size #[.int .u8 (K : Int), .int .i64 0, .int .i64 0, .int .i64 0, .int .u8 0, .slice none 0 0, .slice none 0 0] 29) := BXR7.out.fx hf8 (by rintro (e | e) <;> have := HRL.out <;> omega)
    clear hf8
    have r2 : w8.cell? ⟨w6.heap.size, 2, none⟩ = some (.int .i64 0) := BXR8.out.cell 2
    have f2 := BXR8.out.frozen 2
    have r4 : w8.cell? ⟨w6.heap.size, 4, none⟩ = some (.int .u8 0) := BXR8.out.cell 4
    have f4 := BXR8.out.frozen 4
    have rl := BXR8.out.lt
    have hbxr : Box ((w8.setCell ⟨w6.heap.size, 2, none⟩ (.int .i64 z1)).setCell ⟨w6.heap.size, 4, none⟩ (.int .u8 (an : Int))) w6.heap.size #[.int .u8 (K : Int), .int .i64 0, .int .i64 z1, .int .i64 0, .int .u8 (an : Int), .slice none 0 0, .slice none 0 0] 29 := by
      have h := ((BXR8.out.set 2 (.int .i64 z1)).set 4 (.int .u8 (an : Int)))
      simpa using h
    obtain ⟨W9, hW9⟩ : ∃ W9, W9 = ((w8.setCell ⟨w6.heap.size, 2, none⟩ (.int .i64 z1)).setCell ⟨w6.heap.size, 4, none⟩ (.int .u8 (an : Int))) := ⟨_, rfl⟩
    have hf9 : Fx (fun g => g = w6.heap.size) w8 W9 := by rw [hW9]; exact (Fx.set w8 _ 2 _).trans (Fx.set _ _ 4 _)
    have BXR9 : Hid (Box W9 w6.heap.size #[.int .u8 (K : Int), .int .i64 0, .int .i64 z1, .int .i64 0, .int .u8 (an : Int), .slice none 0 0, .slice none 0 0] 29) := by rw [hW9]; exact hbxr
    have hno : ∀ t, t ≠ 29 → NoT (fun g => g = w6.heap.size) w8 t := fun t ht b e k => by subst e; exact ht (k.one BXR8.out.tag)
    have HQ9 : Hid (IsRT W9 (.agg #[.int .u8 (K : Int), .int .i64 0, .int .i64 z1, .int .i64 0, .int .u8 (an : Int), .slice none 0 0, .slice none 0 0]) q) := by
      rw [HQQ.out.1]
      exact ⟨⟨by have := HIK2.out; show K < 256; omega, by constructor <;> simp, HIN.out.1, by constructor <;> simp, HAN2.out⟩, _, _, rfl, SlST.nil _, SlLT.nil _⟩
    have HT9 : Hid (TkAt W9 Bl Bm s') := T8.out.fx hf9 (fun e => by have := HRL.out; omega) (fun e => by have := HRL.out; omega) (hno _ (by decide))
    have BX9 : Hid (Box W9 w.heap.size #[.int .u8 0, .int .i64 0, .int .i64 0, .int .i64 0, .int .u8 0, .slice none 0 0, .slice none 0 0] 29) := BX8.out.fx hf9 (fun e => by have := HRL.out; omega)
    have HB9 : Hid (Below w.heap.size w W9) := HB8.out.trans (hf9.toBelow HB8.out.size (fun b e => by have := HRL.out; omega))
    clear hbxr hno hf9
    go_upto_region 19 with fail
    rw [← hW9]
    clear hW9 rl r2 f2 r4 f4
    have r0 : W9.cell? ⟨w6.heap.size, 0, none⟩ = some (.int .u8 (K : Int)) := BXR9.out.cell 0
    have r1 : W9.cell? ⟨w6.heap.size, 1, none⟩ = some (.int .i64 0) := BXR9.out.cell 1
    have r2 : W9.cell? ⟨w6.heap.size, 2, none⟩ = some (.int .i64 z1) := BXR9.out.cell 2
    have r3 : W9.cell? ⟨w6.heap.size, 3, none⟩ = some (.int .i64 0) := BXR9.out.cell 3
    have r4 : W9.cell? ⟨w6.heap.size, 4, none⟩ = some (.int .u8 (an : Int)) := BXR9.out.cell 4
    have r5 : W9.cell? ⟨w6.heap.size, 5, none⟩ = some (.slice none 0 0) := BXR9.out.cell 5
    have r6 : W9.cell? ⟨w6.heap.size, 6, none⟩ = some (.slice none 0 0) := BXR9.out.cell 6
    have rl := BXR9.out.lt
    go_wp2_with fail
    refine (Line_c W9 _ q HQ9.out.is (HE.out.after HB9.out)).mono ?_
    obtain ⟨st, er, hln⟩ : ∃ st er, lineF q = (st, er) := ⟨_, _, rfl⟩
    have HLN := Lib.hid hln
    unfold RetL
    rw [hln]
    clear hln
    rintro e w10 ⟨rfl, hb10⟩
    have HB10 : Hid (Below w.heap.size w w10) := HB9.out.trans (hb10.mono HB9.out.size)
    have BX10 := Lib.hid (BX9.out.after hb10)
    have BXR10 := Lib.hid (BXR9.out.after hb10)
    have HQ10 := Lib.hid (HQ9.out.after hb10)
    have HT10 := Lib.hid (HT9.out.after hb10)
    clear hb10 BX9 BXR9 HQ9 HT9 r0 r1 r2 r3 r4 r5 r6 rl
    dsimp only
    go_wp2_with fail
    refine (done_c w10 Bl Bm s' HT10.out).mono ?_
    obtain ⟨dn, hdn⟩ : ∃ dn, doneB s' = dn := ⟨_, rfl⟩
    have HDN := Lib.hid hdn
    rw [hdn]
    clear hdn
    unfold RetB
    rintro e w11 ⟨rfl, hb11⟩
    have HB11 : Hid (Below w.heap.size w w11) := HB10.out.trans (hb11.mono HB10.out.size)
    have BX11 := Lib.hid (BX10.out.after hb11)
    have BXR11 := Lib.hid (BXR10.out.after hb11)
    have HQ11 := Lib.hid (HQ10.out.after hb11)
    clear hb11 BX10 BXR10 HQ10 HT10
    cases dn with
    | false =>
      have HF : Hid (recP line = (Rec.none, 4)) := by
        show _ = _
        rw [HR9.out, HDN.out, if_neg (by simp)]
      have x0 : w11.cell? ⟨w.heap.size, 0, none⟩ = some (.int .u8 0) := BX11.out.cell 0
      have x1 : w11.cell? ⟨w.heap.size, 1, none⟩ = some (.int .i64 0) := BX11.out.cell 1
      have x2 : w11.cell? ⟨w.heap.size, 2, none⟩ = some (.int .i64 0) := BX11.out.cell 2
      have x3 : w11.cell? ⟨w.heap.size, 3, none⟩ = some (.int .i64 0) := BX11.out.cell 3
      have x4 : w11.cell? ⟨w.heap.size, 4, none⟩ = some (.int .u8 0) := BX11.out.cell 4
      have x5 : w11.cell? ⟨w.heap.size, 5, none⟩ = some (.slice none 0 0) := BX11.out.cell 5
      have x6 : w11.cell? ⟨w.heap.size, 6, none⟩ = some (.slice none 0 0) := BX11.out.cell 6
      have f0 := BX11.out.frozen 0
      have f1 := BX11.out.frozen 1
      have f2 := BX11.out.frozen 2
      have f3 := BX11.out.frozen 3
      have f4 := BX11.out.frozen 4
      have f5 := BX11.out.frozen 5
      have f6 := BX11.out.frozen 6
      have xl := BX11.out.lt
      go_wp2_with fail
      have hE7 := end7 (a := .int .u8 0) (b := .int .i64 0) (c := .int .i64 0) (d := .int .i64 0) (e := .int .u8 0) (f := .slice none 0 0) (g := .slice none 0 0) BX11.out
      have hbE := below7 (a := .int .u8 0) (b := .int .i64 0) (c := .int .i64 0) (d := .int .i64 0) (e := .int .u8 0) (f := .slice none 0 0) (g := .slice none 0 0) HB11.out (Nat.le_refl w.heap.size)
      have hfE := fx7 w11 w.heap.size (.int .u8 0) (.int .i64 0) (.int .i64 0) (.int .i64 0) (.int .u8 0) (.slice none 0 0) (.slice none 0 0)
      refine (show (∀ WE, Box WE w.heap.size #[.int .u8 0, .int .i64 0, .int .i64 0, .int .i64 0, .int .u8 0, .slice none 0 0, .slice none 0 0] 29 → Below w.heap.size w WE → Fx (fun g => g = w.heap.size) w11 WE → bodyPost Tryz.prog _ (RetRc w line) Exit.ret _ WE) → _ from fun H => H _ hE7 hbE hfE) ?_
      clear hE7 hbE hfE
      intro WE hE7 hbE hfE
      have ze0 := hE7.cell 0
      have ze1 := hE7.cell 1
      have ze2 := hE7.cell 2
      have ze3 := hE7.cell 3
      have ze4 := hE7.cell 4
      have ze5 := hE7.cell 5
      have ze6 := hE7.cell 6
      refine bodyPost_ret (v := .tuple #[.agg #[.int .u8 0, .int .i64 0, .int .i64 0, .int .i64 0, .int .u8 0, .slice none 0 0, .slice none 0 0], .int .i64 4]) (by simp [results, Tryz.results36, go_sem, ze0, ze1, ze2, ze3, ze4, ze5, ze6]) rfl ?_
      exact rec_end HF.out hbE
    | true =>
      by_cases her : er = 0
      rotate_left
      · have HF : Hid (recP line = (Rec.none, 4)) := by
          show _ = _
          rw [HR9.out, HLN.out, if_neg]
          rintro ⟨_, h⟩
          exact her (Prod.mk.inj h).2
        have p1 : (er == 0) = false := by rw [beq_eq_false_iff_ne]; exact her
        have p2 : (er != 0) = true := by rw [bne, p1]; rfl
        clear her
        have x0 : w11.cell? ⟨w.heap.size, 0, none⟩ = some (.int .u8 0) := BX11.out.cell 0
        have x1 : w11.cell? ⟨w.heap.size, 1, none⟩ = some (.int .i64 0) := BX11.out.cell 1
        have x2 : w11.cell? ⟨w.heap.size, 2, none⟩ = some (.int .i64 0) := BX11.out.cell 2
        have x3 : w11.cell? ⟨w.heap.size, 3, none⟩ = some (.int .i64 0) := BX11.out.cell 3
        have x4 : w11.cell? ⟨w.heap.size, 4, none⟩ = some (.int .u8 0) := BX11.out.cell 4
        have x5 : w11.cell? ⟨w.heap.size, 5, none⟩ = some (.slice none 0 0) := BX11.out.cell 5
        have x6 : w11.cell? ⟨w.heap.size, 6, none⟩ = some (.slice none 0 0) := BX11.out.cell 6
        have f0 := BX11.out.frozen 0
        have f1 := BX11.out.frozen 1
        have f2 := BX11.out.frozen 2
        have f3 := BX11.out.frozen 3
        have f4 := BX11.out.frozen 4
        have f5 := BX11.out.frozen 5
        have f6 := BX11.out.frozen 6
        have xl := BX11.out.lt
        go_wp2_with fail
        have hE7 := end7 (a := .int .u8 0) (b := .int .i64 0) (c := .int .i64 0) (d := .int .i64 0) (e := .int .u8 0) (f := .slice none 0 0) (g := .slice none 0 0) BX11.out
        have hbE := below7 (a := .int .u8 0) (b := .int .i64 0) (c := .int .i64 0) (d := .int .i64 0) (e := .int .u8 0) (f := .slice none 0 0) (g := .slice none 0 0) HB11.out (Nat.le_refl w.heap.size)
        have hfE := fx7 w11 w.heap.size (.int .u8 0) (.int .i64 0) (.int .i64 0) (.int .i64 0) (.int .u8 0) (.slice none 0 0) (.slice none 0 0)
        refine (show (∀ WE, Box WE w.heap.size #[.int .u8 0, .int .i64 0, .int .i64 0, .int .i64 0, .int .u8 0, .slice none 0 0, .slice none 0 0] 29 → Below w.heap.size w WE → Fx (fun g => g = w.heap.size) w11 WE → bodyPost Tryz.prog _ (RetRc w line) Exit.ret _ WE) → _ from fun H => H _ hE7 hbE hfE) ?_
        clear hE7 hbE hfE
        intro WE hE7 hbE hfE
        have ze0 := hE7.cell 0
        have ze1 := hE7.cell 1
        have ze2 := hE7.cell 2
        have ze3 := hE7.cell 3
        have ze4 := hE7.cell 4
        have ze5 := hE7.cell 5
        have ze6 := hE7.cell 6
        refine bodyPost_ret (v := .tuple #[.agg #[.int .u8 0, .int .i64 0, .int .i64 0, .int .i64 0, .int .u8 0, .slice none 0 0, .slice none 0 0], .int .i64 4]) (by simp [results, Tryz.results36, go_sem, ze0, ze1, ze2, ze3, ze4, ze5, ze6]) rfl ?_
        exact rec_end HF.out hbE
      subst her
      have hsv := bs_eqv st tl
      by_cases hst : st = tl
      rotate_left
      · have HF : Hid (recP line = (Rec.none, 4)) := by
          show _ = _
          rw [HR9.out, HLN.out, if_neg]
          rintro ⟨_, h⟩
          exact hst (Prod.mk.inj h).1
        have p1 : ((bs st).toList == (bs tl).toList) = false := by rw [hsv]; exact decide_eq_false hst
        have p2 : ((bs st).toList != (bs tl).toList) = true := by rw [bne, p1]; rfl
        clear hst hsv
        have x0 : w11.cell? ⟨w.heap.size, 0, none⟩ = some (.int .u8 0) := BX11.out.cell 0
        have x1 : w11.cell? ⟨w.heap.size, 1, none⟩ = some (.int .i64 0) := BX11.out.cell 1
        have x2 : w11.cell? ⟨w.heap.size, 2, none⟩ = some (.int .i64 0) := BX11.out.cell 2
        have x3 : w11.cell? ⟨w.heap.size, 3, none⟩ = some (.int .i64 0) := BX11.out.cell 3
        have x4 : w11.cell? ⟨w.heap.size, 4, none⟩ = some (.int .u8 0) := BX11.out.cell 4
        have x5 : w11.cell? ⟨w.heap.size, 5, none⟩ = some (.slice none 0 0) := BX11.out.cell 5
        have x6 : w11.cell? ⟨w.heap.size, 6, none⟩ = some (.slice none 0 0) := BX11.out.cell 6
        have f0 := BX11.out.frozen 0
        have f1 := BX11.out.frozen 1
        have f2 := BX11.out.frozen 2
        have f3 := BX11.out.frozen 3
        have f4 := BX11.out.frozen 4
        have f5 := BX11.out.frozen 5
        have f6 := BX11.out.frozen 6
        have xl := BX11.out.lt
        go_wp2_with fail
        have hE7 := end7 (a := .int .u8 0) (b := .int .i64 0) (c := .int .i64 0) (d := .int .i64 0) (e := .int .u8 0) (f := .slice none 0 0) (g := .slice none 0 0) BX11.out
        have hbE := below7 (a := .int .u8 0) (b := .int .i64 0) (c := .int .i64 0) (d := .int .i64 0) (e := .int .u8 0) (f := .slice none 0 0) (g := .slice none 0 0) HB11.out (Nat.le_refl w.heap.size)
        have hfE := fx7 w11 w.heap.size (.int .u8 0) (.int .i64 0) (.int .i64 0) (.int .i64 0) (.int .u8 0) (.slice none 0 0) (.slice none 0 0)
        refine (show (∀ WE, Box WE w.heap.size #[.int .u8 0, .int .i64 0, .int .i64 0, .int .i64 0, .int .u8 0, .slice none 0 0, .slice none 0 0] 29 → Below w.heap.size w WE → Fx (fun g => g = w.heap.size) w11 WE → bodyPost Tryz.prog _ (RetRc w line) Exit.ret _ WE) → _ from fun H => H _ hE7 hbE hfE) ?_
        clear hE7 hbE hfE
        intro WE hE7 hbE hfE
        have ze0 := hE7.cell 0
        have ze1 := hE7.cell 1
        have ze2 := hE7.cell 2
        have ze3 := hE7.cell 3
        have ze4 := hE7.cell 4
        have ze5 := hE7.cell 5
        have ze6 := hE7.cell 6
        refine bodyPost_ret (v := .tuple #[.agg #[.int .u8 0, .int .i64 0, .int .i64 0, .int .i64 0, .int .u8 0, .slice none 0 0, .slice none 0 0], .int .i64 4]) (by simp [results, Tryz.results36, go_sem, ze0, ze1, ze2, ze3, ze4, ze5, ze6]) rfl ?_
        exact rec_end HF.out hbE
      have HF : Hid (recP line = (q, 0)) := by
        show _ = _
        rw [HR9.out, HLN.out, HDN.out, hst, if_pos ⟨rfl, rfl⟩]
      have p1 : ((bs st).toList == (bs tl).toList) = true := by rw [hsv]; exact decide_eq_true hst
      have p2 : ((bs st).toList != (bs tl).toList) = false := by rw [bne, p1]; rfl
      clear hst hsv
      have x0 : w11.cell? ⟨w.heap.size, 0, none⟩ = some (.int .u8 0) := BX11.out.cell 0
      have x1 : w11.cell? ⟨w.heap.size, 1, none⟩ = some (.int .i64 0) := BX11.out.cell 1
      have x2 : w11.cell? ⟨w.heap.size, 2, none⟩ = some (.int .i64 0) := BX11.out.cell 2
      have x3 : w11.cell? ⟨w.heap.size, 3, none⟩ = some (.int .i64 0) := BX11.out.cell 3
      have x4 : w11.cell? ⟨w.heap.size, 4, none⟩ = some (.int .u8 0) := BX11.out.cell 4
      have x5 : w11.cell? ⟨w.heap.size, 5, none⟩ = some (.slice none 0 0) := BX11.out.cell 5
      have x6 : w11.cell? ⟨w.heap.size, 6, none⟩ = some (.slice none 0 0) := BX11.out.cell 6
      have f0 := BX11.out.frozen 0
      have f1 := BX11.out.frozen 1
      have f2 := BX11.out.frozen 2
      have f3 := BX11.out.frozen 3
      have f4 := BX11.out.frozen 4
      have f5 := BX11.out.frozen 5
      have f6 := BX11.out.frozen 6
      have xl := BX11.out.lt
      have r0 : w11.cell? ⟨w6.heap.size, 0, none⟩ = some (.int .u8 (K : Int)) := BXR11.out.cell 0
      have r1 : w11.cell? ⟨w6.heap.size, 1, none⟩ = some (.int .i64 0) := BXR11.out.cell 1
      have r2 : w11.cell? ⟨w6.heap.size, 2, none⟩ = some (.int .i64 z1) := BXR11.out.cell 2
      have r3 : w11.cell? ⟨w6.heap.size, 3, none⟩ = some (.int .i64 0) := BXR11.out.cell 3
      have r4 : w11.cell? ⟨w6.heap.size, 4, none⟩ = some (.int .u8 (an : Int)) := BXR11.out.cell 4
      have r5 : w11.cell? ⟨w6.heap.size, 5, none⟩ = some (.slice none 0 0) := BXR11.out.cell 5
      have r6 : w11.cell? ⟨w6.heap.size, 6, none⟩ = some (.slice none 0 0) := BXR11.out.cell 6
      have rl := BXR11.out.lt
      go_wp2_with fail
      have hE7 := end7 (a := .int .u8 (K : Int)) (b := .int .i64 0) (c := .int .i64 z1) (d := .int .i64 0) (e := .int .u8 (an : Int)) (f := .slice none 0 0) (g := .slice none 0 0) BX11.out
      have hbE := below7 (a := .int .u8 (K : Int)) (b := .int .i64 0) (c := .int .i64 z1) (d := .int .i64 0) (e := .int .u8 (an : Int)) (f := .slice none 0 0) (g := .slice none 0 0) HB11.out (Nat.le_refl w.heap.size)
      have hfE := fx7 w11 w.heap.size (.int .u8 (K : Int)) (.int .i64 0) (.int .i64 z1) (.int .i64 0) (.int .u8 (an : Int)) (.slice none 0 0) (.slice none 0 0)
      refine (show (∀ WE, Box WE w.heap.size #[.int .u8 (K : Int), .int .i64 0, .int .i64 z1, .int .i64 0, .int .u8 (an : Int), .slice none 0 0, .slice none 0 0] 29 → Below w.heap.size w WE → Fx (fun g => g = w.heap.size) w11 WE → bodyPost Tryz.prog _ (RetRc w line) Exit.ret _ WE) → _ from fun H => H _ hE7 hbE hfE) ?_
      clear hE7 hbE hfE
      intro WE hE7 hbE hfE
      have ze0 := hE7.cell 0
      have ze1 := hE7.cell 1
      have ze2 := hE7.cell 2
      have ze3 := hE7.cell 3
      have ze4 := hE7.cell 4
      have ze5 := hE7.cell 5
      have ze6 := hE7.cell 6
      refine bodyPost_ret (v := .tuple #[.agg #[.int .u8 (K : Int), .int .i64 0, .int .i64 z1, .int .i64 0, .int .u8 (an : Int), .slice none 0 0, .slice none 0 0], .int .i64 0]) (by simp [results, Tryz.results36, go_sem, ze0, ze1, ze2, ze3, ze4, ze5, ze6]) rfl ?_
      have hq := HQ11.out.fx hfE (NoP.of BX11.out.tag (by decide) (by decide) (by decide))
      exact ⟨_, by rw [HF.out], by rw [HF.out]; exact hq, hbE⟩
  have qk3 : ((K : Int) == 3) = false := by rw [beq_eq_false_iff_ne]; omega
  have HQQ : Hid (q = ⟨K, 0, 0, 0, 0, [], []⟩ ∧ s' = (l, false)) := by
    have h := HQS.out
    unfold recW at h
    match K, hk1, hk2, hk3 with
    | 0, _, _, _ => obtain ⟨h1, h2⟩ := Prod.mk.inj h; exact ⟨h1.symm, h2.symm⟩
    | n + 4, _, _, _ => obtain ⟨h1, h2⟩ := Prod.mk.inj h; exact ⟨h1.symm, h2.symm⟩
  clear hk1 hk2 hk3
  have BXR9 := BXR7
  have HQ9 : Hid (IsRT W7 (.agg #[.int .u8 (K : Int), .int .i64 0, .int .i64 0, .int .i64 0, .int .u8 0, .slice none 0 0, .slice none 0 0]) q) := by
    rw [HQQ.out.1]
    exact ⟨⟨by have := HIK2.out; show K < 256; omega, by constructor <;> simp, by constructor <;> simp, by constructor <;> simp, by simp⟩, _, _, rfl, SlST.nil _, SlLT.nil _⟩
  have HT9 : Hid (TkAt W7 Bl Bm s') := by rw [HQQ.out.2]; exact T7.out
  have BX9 := BX7
  have HB9 := HB7
  go_upto_region 19 with fail
  clear r0 rl
  have r0 : W7.cell? ⟨w6.heap.size, 0, none⟩ = some (.int .u8 (K : Int)) := BXR9.out.cell 0
  have r1 : W7.cell? ⟨w6.heap.size, 1, none⟩ = some (.int .i64 0) := BXR9.out.cell 1
  have r2 : W7.cell? ⟨w6.heap.size, 2, none⟩ = some (.int .i64 0) := BXR9.out.cell 2
  have r3 : W7.cell? ⟨w6.heap.size, 3, none⟩ = some (.int .i64 0) := BXR9.out.cell 3
  have r4 : W7.cell? ⟨w6.heap.size, 4, none⟩ = some (.int .u8 0) := BXR9.out.cell 4
  have r5 : W7.cell? ⟨w6.heap.size, 5, none⟩ = some (.slice none 0 0) := BXR9.out.cell 5
  have r6 : W7.cell? ⟨w6.heap.size, 6, none⟩ = some (.slice none 0 0) := BXR9.out.cell 6
  have rl := BXR9.out.lt
  go_wp2_with fail
  refine (Line_c W7 _ q HQ9.out.is (HE.out.after HB9.out)).mono ?_
  obtain ⟨st, er, hln⟩ : ∃ st er, lineF q = (st, er) := ⟨_, _, rfl⟩
  have HLN := Lib.hid hln
  unfold RetL
  rw [hln]
  clear hln
  rintro e w10 ⟨rfl, hb10⟩
  have HB10 : Hid (Below w.heap.size w w10) := HB9.out.trans (hb10.mono HB9.out.size)
  have BX10 := Lib.hid (BX9.out.after hb10)
  have BXR10 := Lib.hid (BXR9.out.after hb10)
  have HQ10 := Lib.hid (HQ9.out.after hb10)
  have HT10 := Lib.hid (HT9.out.after hb10)
  clear hb10 BX9 BXR9 HQ9 HT9 r0 r1 r2 r3 r4 r5 r6 rl
  dsimp only
  go_wp2_with fail
  refine (done_c w10 Bl Bm s' HT10.out).mono ?_
  obtain ⟨dn, hdn⟩ : ∃ dn, doneB s' = dn := ⟨_, rfl⟩
  have HDN := Lib.hid hdn
  rw [hdn]
  clear hdn
  unfold RetB
  rintro e w11 ⟨rfl, hb11⟩
  have HB11 : Hid (Below w.heap.size w w11) := HB10.out.trans (hb11.mono HB10.out.size)
  have BX11 := Lib.hid (BX10.out.after hb11)
  have BXR11 := Lib.hid (BXR10.out.after hb11)
  have HQ11 := Lib.hid (HQ10.out.after hb11)
  clear hb11 BX10 BXR10 HQ10 HT10
  cases dn with
  | false =>
    have HF : Hid (recP line = (Rec.none, 4)) := by
      show _ = _
      rw [HR9.out, HDN.out, if_neg (by simp)]
    have x0 : w11.cell? ⟨w.heap.size, 0, none⟩ = some (.int .u8 0) := BX11.out.cell 0
    have x1 : w11.cell? ⟨w.heap.size, 1, none⟩ = some (.int .i64 0) := BX11.out.cell 1
    have x2 : w11.cell? ⟨w.heap.size, 2, none⟩ = some (.int .i64 0) := BX11.out.cell 2
    have x3 : w11.cell? ⟨w.heap.size, 3, none⟩ = some (.int .i64 0) := BX11.out.cell 3
    have x4 : w11.cell? ⟨w.heap.size, 4, none⟩ = some (.int .u8 0) := BX11.out.cell 4
    have x5 : w11.cell? ⟨w.heap.size, 5, none⟩ = some (.slice none 0 0) := BX11.out.cell 5
    have x6 : w11.cell? ⟨w.heap.size, 6, none⟩ = some (.slice none 0 0) := BX11.out.cell 6
    have f0 := BX11.out.frozen 0
    have f1 := BX11.out.frozen 1
    have f2 := BX11.out.frozen 2
    have f3 := BX11.out.frozen 3
    have f4 := BX11.out.frozen 4
    have f5 := BX11.out.frozen 5
    have f6 := BX11.out.frozen 6
    have xl := BX11.out.lt
    go_wp2_with fail
    have hE7 := end7 (a := .int .u8 0) (b := .int .i64 0) (c := .int .i64 0) (d := .int .i64 0) (e := .int .u8 0) (f := .slice none 0 0) (g := .slice none 0 0) BX11.out
    have hbE := below7 (a := .int .u8 0) (b := .int .i64 0) (c := .int .i64 0) (d := .int .i64 0) (e := .int .u8 0) (f := .slice none 0 0) (g := .slice none 0 0) HB11.out (Nat.le_refl w.heap.size)
    have hfE := fx7 w11 w.heap.size (.int .u8 0) (.int .i64 0) (.int .i64 0) (.int .i64 0) (.int .u8 0) (.slice none 0 0) (.slice none 0 0)
    refine (show (∀ WE, Box WE w.heap.size #[.int .u8 0, .int .i64 0, .int .i64 0, .int .i64 0, .int .u8 0, .slice none 0 0, .slice none 0 0] 29 → Below w.heap.size w WE → Fx (fun g => g = w.heap.size) w11 WE → bodyPost Tryz.prog _ (RetRc w line) Exit.ret _ WE) → _ from fun H => H _ hE7 hbE hfE) ?_
    clear hE7 hbE hfE
    intro WE hE7 hbE hfE
    have ze0 := hE7.cell 0
    have ze1 := hE7.cell 1
    have ze2 := hE7.cell 2
    have ze3 := hE7.cell 3
    have ze4 := hE7.cell 4
    have ze5 := hE7.cell 5
    have ze6 := hE7.cell 6
    refine bodyPost_ret (v := .tuple #[.agg #[.int .u8 0, .int .i64 0, .int .i64 0, .int .i64 0, .int .u8 0, .slice none 0 0, .slice none 0 0], .int .i64 4]) (by simp [results, Tryz.results36, go_sem, ze0, ze1, ze2, ze3, ze4, ze5, ze6]) rfl ?_
    exact rec_end HF.out hbE
  | true =>
    by_cases her : er = 0
    rotate_left
    · have HF : Hid (recP line = (Rec.none, 4)) := by
        show _ = _
        rw [HR9.out, HLN.out, if_neg]
        rintro ⟨_, h⟩
        exact her (Prod.mk.inj h).2
      have p1 : (er == 0) = false := by rw [beq_eq_false_iff_ne]; exact her
      have p2 : (er != 0) = true := by rw [bne, p1]; rfl
      clear her
      have x0 : w11.cell? ⟨w.heap.size, 0, none⟩ = some (.int .u8 0) := BX11.out.cell 0
      have x1 : w11.cell? ⟨w.heap.size, 1, none⟩ = some (.int .i64 0) := BX11.out.cell 1
      have x2 : w11.cell? ⟨w.heap.size, 2, none⟩ = some (.int .i64 0) := BX11.out.cell 2
      have x3 : w11.cell? ⟨w.heap.size, 3, none⟩ = some (.int .i64 0) := BX11.out.cell 3
      have x4 : w11.cell? ⟨w.heap.size, 4, none⟩ = some (.int .u8 0) := BX11.out.cell 4
      have x5 : w11.cell? ⟨w.heap.size, 5, none⟩ = some (.slice none 0 0) := BX11.out.cell 5
      have x6 : w11.cell? ⟨w.heap.size, 6, none⟩ = some (.slice none 0 0) := BX11.out.cell 6
      have f0 := BX11.out.frozen 0
      have f1 := BX11.out.frozen 1
      have f2 := BX11.out.frozen 2
      have f3 := BX11.out.frozen 3
      have f4 := BX11.out.frozen 4
      have f5 := BX11.out.frozen 5
      have f6 := BX11.out.frozen 6
      have xl := BX11.out.lt
      go_wp2_with fail
      have hE7 := end7 (a := .int .u8 0) (b := .int .i64 0) (c := .int .i64 0) (d := .int .i64 0) (e := .int .u8 0) (f := .slice none 0 0) (g := .slice none 0 0) BX11.out
      have hbE := below7 (a := .int .u8 0) (b := .int .i64 0) (c := .int .i64 0) (d := .int .i64 0) (e := .int .u8 0) (f := .slice none 0 0) (g := .slice none 0 0) HB11.out (Nat.le_refl w.heap.size)
      have hfE := fx7 w11 w.heap.size (.int .u8 0) (.int .i64 0) (.int .i64 0) (.int .i64 0) (.int .u8 0) (.slice none 0 0) (.slice none 0 0)
      refine (show (∀ WE, Box WE w.heap.size #[.int .u8 0, .int .i64 0, .int .i64 0, .int .i64 0, .int .u8 0, .slice none 0 0, .slice none 0 0] 29 → Below w.heap.size w WE → Fx (fun g => g = w.heap.size) w11 WE → bodyPost Tryz.prog _ (RetRc w line) Exit.ret _ WE) → _ from fun H => H _ hE7 hbE hfE) ?_
      clear hE7 hbE hfE
      intro WE hE7 hbE hfE
      have ze0 := hE7.cell 0
      have ze1 := hE7.cell 1
      have ze2 := hE7.cell 2
      have ze3 := hE7.cell 3
      have ze4 := hE7.cell 4
      have ze5 := hE7.cell 5
      have ze6 := hE7.cell 6
      refine bodyPost_ret (v := .tuple #[.agg #[.int .u8 0, .int .i64 0, .int .i64 0, .int .i64 0, .int .u8 0, .slice none 0 0, .slice none 0 0], .int .i64 4]) (by simp [results, Tryz.results36, go_sem, ze0, ze1, ze2, ze3, ze4, ze5, ze6]) rfl ?_
      exact rec_end HF.out hbE
    subst her
    have hsv := bs_eqv st tl
    by_cases hst : st = tl
    rotate_left
    · have HF : Hid (recP line = (Rec.none, 4)) := by
        show _ = _
        rw [HR9.out, HLN.out, if_neg]
        rintro ⟨_, h⟩
        exact hst (Prod.mk.inj h).1
      have p1 : ((bs st).toList == (bs tl).toList) = false := by rw [hsv]; exact decide_eq_false hst
      have p2 : ((bs st).toList != (bs tl).toList) = true := by rw [bne, p1]; rfl
      clear hst hsv
      have x0 : w11.cell? ⟨w.heap.size, 0, none⟩ = some (.int .u8 0) := BX11.out.cell 0
      have x1 : w11.cell? ⟨w.heap.size, 1, none⟩ = some (.int .i64 0) := BX11.out.cell 1
      have x2 : w11.cell? ⟨w.heap.size, 2, none⟩ = some (.int .i64 0) := BX11.out.cell 2
      have x3 : w11.cell? ⟨w.heap.size, 3, none⟩ = some (.int .i64 0) := BX11.out.cell 3
      have x4 : w11.cell? ⟨w.heap.size, 4, none⟩ = some (.int .u8 0) := BX11.out.cell 4
      have x5 : w11.cell? ⟨w.heap.size, 5, none⟩ = some (.slice none 0 0) := BX11.out.cell 5
      have x6 : w11.cell? ⟨w.heap.size, 6, none⟩ = some (.slice none 0 0) := BX11.out.cell 6
      have f0 := BX11.out.frozen 0
      have f1 := BX11.out.frozen 1
      have f2 := BX11.out.frozen 2
      have f3 := BX11.out.frozen 3
      have f4 := BX11.out.frozen 4
      have f5 := BX11.out.frozen 5
      have f6 := BX11.out.frozen 6
      have xl := BX11.out.lt
      go_wp2_with fail
      have hE7 := end7 (a := .int .u8 0) (b := .int .i64 0) (c := .int .i64 0) (d := .int .i64 0) (e := .int .u8 0) (f := .slice none 0 0) (g := .slice none 0 0) BX11.out
      have hbE := below7 (a := .int .u8 0) (b := .int .i64 0) (c := .int .i64 0) (d := .int .i64 0) (e := .int .u8 0) (f := .slice none 0 0) (g := .slice none 0 0) HB11.out (Nat.le_refl w.heap.size)
      have hfE := fx7 w11 w.heap.size (.int .u8 0) (.int .i64 0) (.int .i64 0) (.int .i64 0) (.int .u8 0) (.slice none 0 0) (.slice none 0 0)
      refine (show (∀ WE, Box WE w.heap.size #[.int .u8 0, .int .i64 0, .int .i64 0, .int .i64 0, .int .u8 0, .slice none 0 0, .slice none 0 0] 29 → Below w.heap.size w WE → Fx (fun g => g = w.heap.size) w11 WE → bodyPost Tryz.prog _ (RetRc w line) Exit.ret _ WE) → _ from fun H => H _ hE7 hbE hfE) ?_
      clear hE7 hbE hfE
      intro WE hE7 hbE hfE
      have ze0 := hE7.cell 0
      have ze1 := hE7.cell 1
      have ze2 := hE7.cell 2
      have ze3 := hE7.cell 3
      have ze4 := hE7.cell 4
      have ze5 := hE7.cell 5
      have ze6 := hE7.cell 6
      refine bodyPost_ret (v := .tuple #[.agg #[.int .u8 0, .int .i64 0, .int .i64 0, .int .i64 0, .int .u8 0, .slice none 0 0, .slice none 0 0], .int .i64 4]) (by simp [results, Tryz.results36, go_sem, ze0, ze1, ze2, ze3, ze4, ze5, ze6]) rfl ?_
      exact rec_end HF.out hbE
    have HF : Hid (recP line = (q, 0)) := by
      show _ = _
      rw [HR9.out, HLN.out, HDN.out, hst, if_pos ⟨rfl, rfl⟩]
    have p1 : ((bs st).toList == (bs tl).toList) = true := by rw [hsv]; exact decide_eq_true hst
    have p2 : ((bs st).toList != (bs tl).toList) = false := by rw [bne, p1]; rfl
    clear hst hsv
    have x0 : w11.cell? ⟨w.heap.size, 0, none⟩ = some (.int .u8 0) := BX11.out.cell 0
    have x1 : w11.cell? ⟨w.heap.size, 1, none⟩ = some (.int .i64 0) := BX11.out.cell 1
    have x2 : w11.cell? ⟨w.heap.size, 2, none⟩ = some (.int .i64 0) := BX11.out.cell 2
    have x3 : w11.cell? ⟨w.heap.size, 3, none⟩ = some (.int .i64 0) := BX11.out.cell 3
    have x4 : w11.cell? ⟨w.heap.size, 4, none⟩ = some (.int .u8 0) := BX11.out.cell 4
    have x5 : w11.cell? ⟨w.heap.size, 5, none⟩ = some (.slice none 0 0) := BX11.out.cell 5
    have x6 : w11.cell? ⟨w.heap.size, 6, none⟩ = some (.slice none 0 0) := BX11.out.cell 6
    have f0 := BX11.out.frozen 0
    have f1 := BX11.out.frozen 1
    have f2 := BX11.out.frozen 2
    have f3 := BX11.out.frozen 3
    have f4 := BX11.out.frozen 4
    have f5 := BX11.out.frozen 5
    have f6 := BX11.out.frozen 6
    have xl := BX11.out.lt
    have r0 : w11.cell? ⟨w6.heap.size, 0, none⟩ = some (.int .u8 (K : Int)) := BXR11.out.cell 0
    have r1 : w11.cell? ⟨w6.heap.size, 1, none⟩ = some (.int .i64 0) := BXR11.out.cell 1
    have r2 : w11.cell? ⟨w6.heap.size, 2, none⟩ = some (.int .i64 0) := BXR11.out.cell 2
    have r3 : w11.cell? ⟨w6.heap.size, 3, none⟩ = some (.int .i64 0) := BXR11.out.cell 3
    have r4 : w11.cell? ⟨w6.heap.size, 4, none⟩ = some (.int .u8 0) := BXR11.out.cell 4
    have r5 : w11.cell? ⟨w6.heap.size, 5, none⟩ = some (.slice none 0 0) := BXR11.out.cell 5
    have r6 : w11.cell? ⟨w6.heap.size, 6, none⟩ = some (.slice none 0 0) := BXR11.out.cell 6
    have rl := BXR11.out.lt
    go_wp2_with fail
    have hE7 := end7 (a := .int .u8 (K : Int)) (b := .int .i64 0) (c := .int .i64 0) (d := .int .i64 0) (e := .int .u8 0) (f := .slice none 0 0) (g := .slice none 0 0) BX11.out
    have hbE := below7 (a := .int .u8 (K : Int)) (b := .int .i64 0) (c := .int .i64 0) (d := .int .i64 0) (e := .int .u8 0) (f := .slice none 0 0) (g := .slice none 0 0) HB11.out (Nat.le_refl w.heap.size)
    have hfE := fx7 w11 w.heap.size (.int .u8 (K : Int)) (.int .i64 0) (.int .i64 0) (.int .i64 0) (.int .u8 0) (.slice none 0 0) (.slice none 0 0)
    refine (show (∀ WE, Box WE w.heap.size #[.int .u8 (K : Int), .int .i64 0, .int .i64 0, .int .i64 0, .int .u8 0, .slice none 0 0, .slice none 0 0] 29 → Below w.heap.size w WE → Fx (fun g => g = w.heap.size) w11 WE → bodyPost Tryz.prog _ (RetRc w line) Exit.ret _ WE) → _ from fun H => H _ hE7 hbE hfE) ?_
    clear hE7 hbE hfE
    intro WE hE7 hbE hfE
    have ze0 := hE7.cell 0
    have ze1 := hE7.cell 1
    have ze2 := hE7.cell 2
    have ze3 := hE7.cell 3
    have ze4 := hE7.cell 4
    have ze5 := hE7.cell 5
    have ze6 := hE7.cell 6
    refine bodyPost_ret (v := .tuple #[.agg #[.int .u8 (K : Int), .int .i64 0, .int .i64 0, .int .i64 0, .int .u8 0, .slice none 0 0, .slice none 0 0], .int .i64 0]) (by simp [results, Tryz.results36, go_sem, ze0, ze1, ze2, ze3, ze4, ze5, ze6]) rfl ?_
    have hq := HQ11.out.fx hfE (NoP.of BX11.out.tag (by decide) (by decide) (by decide))
    exact ⟨_, by rw [HF.out], by rw [HF.out]; exact hq, hbE⟩
end Go.Proofs.YtpaoeeamlinaaaaGreatDoor
