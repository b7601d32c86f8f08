/- Walk of a statement about layer 1: LexisKnown. -/
import Derived.Test.YtnifndolopnbfaaDoorK07
import Derived.Deep.DeepCutAuto
set_option linter.unusedVariables false
namespace Go.Proofs.YtnifndolopnbfaaDoor
open Go.RowKit

/-- The texts of the example. -/
def knTxt : List (List UInt8) := [[97, 32, 46, 32, 98], [48, 49], [32, 65], [120, 32, 45], [97, 98, 99, 100, 101, 102, 103, 104, 105, 106, 107, 108, 32, 97, 98, 99, 100, 101, 102, 103, 104, 105, 106, 107, 108, 109], [57, 57, 57, 57, 57, 57, 57, 57, 57, 32, 49, 48, 48, 48, 48, 48, 48, 48, 48, 48], [48, 49, 50, 51, 52, 53, 54, 55, 56, 57], [97, 95, 98], [120, 34], [49, 97, 32, 50]]
def knRes : List (Int × Nat) := [(2, 4), (0, 4), (1, 4), (2, 4), (13, 3), (10, 3), (0, 4), (1, 4), (1, 4), (0, 0)]
theorem kn_all : knTxt.map (fun l => (toksF l).2) = knRes := by kernel_rfl
def knT (k : Nat) : List UInt8 := knTxt.getD k []
def knO (k : Nat) : Int := (knRes.getD k (0, 0)).1
def knE (k : Nat) : Nat := (knRes.getD k (0, 0)).2
theorem kn_toks {k : Nat} (hk : k < 10) : ∃ us, toksF (knT k) = (us, knO k, knE k) := by
  have h : (knTxt.map (fun l => (toksF l).2))[k]? = knRes[k]? := by rw [kn_all]
  have h1 : knTxt[k]? = some (knT k) := by
    unfold knT
    rw [List.getD_eq_getElem?_getD, List.getElem?_eq_getElem (show k < knTxt.length from hk)]; rfl
  have h2 : knRes[k]? = some (knO k, knE k) := by
    unfold knO knE
    rw [List.getD_eq_getElem?_getD, List.getElem?_eq_getElem (show k < knRes.length from hk)]; rfl
  rw [List.getElem?_map, h1, h2] at h
  simp only [Option.map_some, Option.some.injEq] at h
  exact ⟨(toksF (knT k)).1, by rw [← h]⟩
theorem kn_len {k : Nat} : (knT k).length ≤ 9223372036854775807 := by
  have : ∀ l ∈ knTxt, l.length ≤ 100 := by decide
  unfold knT
  rw [List.getD_eq_getElem?_getD]
  cases h : knTxt[k]? with
  | none => simp
  | some l =>
    have := this l (List.mem_of_getElem? h)
    simp only [Option.getD_some]; omega
def knS : Array Value := #[.string ⟨#[97, 32, 46, 32, 98]⟩, .string ⟨#[48, 49]⟩, .string ⟨#[32, 65]⟩, .string ⟨#[120, 32, 45]⟩, .string ⟨#[97, 98, 99, 100, 101, 102, 103, 104, 105, 106, 107, 108, 32, 97, 98, 99, 100, 101, 102, 103, 104, 105, 106, 107, 108, 109]⟩, .string ⟨#[57, 57, 57, 57, 57, 57, 57, 57, 57, 32, 49, 48, 48, 48, 48, 48, 48, 48, 48, 48]⟩, .string ⟨#[48, 49, 50, 51, 52, 53, 54, 55, 56, 57]⟩, .string ⟨#[97, 95, 98]⟩, .string ⟨#[120, 34]⟩, .string ⟨#[49, 97, 32, 50]⟩]
def knI : Array Value := #[.int .i64 2, .int .i64 0, .int .i64 1, .int .i64 2, .int .i64 13, .int .i64 10, .int .i64 0, .int .i64 1, .int .i64 1, .int .i64 0]
def knX : Array Value := #[.int .i64 4, .int .i64 4, .int .i64 4, .int .i64 4, .int .i64 3, .int .i64 3, .int .i64 4, .int .i64 4, .int .i64 4, .int .i64 0]
theorem knS_at {k : Nat} (hk : k < 10) : knS[k]? = some (.string (bs (knT k))) := by
  match k, hk with
  | 0, _ | 1, _ | 2, _ | 3, _ | 4, _ | 5, _ | 6, _ | 7, _ | 8, _ | 9, _ => rfl
theorem knI_at {k : Nat} (hk : k < 10) : knI[k]? = some (.int .i64 (knO k)) := by
  match k, hk with
  | 0, _ | 1, _ | 2, _ | 3, _ | 4, _ | 5, _ | 6, _ | 7, _ | 8, _ | 9, _ => rfl
theorem knX_at {k : Nat} (hk : k < 10) : knX[k]? = some (.int .i64 ((knE k : Nat) : Int)) := by
  match k, hk with
  | 0, _ | 1, _ | 2, _ | 3, _ | 4, _ | 5, _ | 6, _ | 7, _ | 8, _ | 9, _ => rfl
theorem toks_kn : toksF [97, 45, 49, 123, 98, 44, 99, 125] = ([⟨1, [97, 45, 49], 0, 0⟩, ⟨3, [123], 0, 3⟩, ⟨1, [98], 0, 4⟩, ⟨3, [44], 0, 5⟩, ⟨1, [99], 0, 6⟩, ⟨3, [125], 0, 7⟩], 0, 0) := by kernel_rfl
theorem toks_hash : toksF [35] = ([], 0, 0) := by kernel_rfl
theorem print_k1 : printF [⟨1, [97, 32, 98], 0, 0⟩] = ([], 1) := by kernel_rfl
theorem print_k2 : printF [⟨2, [53], 6, 0⟩] = ([], 1) := by kernel_rfl
theorem print_k3 : printF [⟨3, [61, 61], 0, 0⟩] = ([], 1) := by kernel_rfl
/-- A row of one token. -/
theorem SlK.one (w : World) (k : Nat) (x : List UInt8) (n o : Int) (h : TokOk ⟨k, x, n, o⟩) : SlK (w.alloc (.cells #[.int .u8 (k : Int), .string (bs x), .int .i64 n, .int .i64 o] 34)) (.slice (some ⟨w.heap.size, 0, none⟩) 1 1) [⟨k, x, n, o⟩] := by
  have hb := Box.new w #[.int .u8 (k : Int), .string (bs x), .int .i64 n, .int .i64 o] 34
  refine ⟨fun t ht => by rw [List.mem_singleton.1 ht]; exact h, some ⟨w.heap.size, 0, none⟩, 1, rfl, by simp, by omega, (fun h => by cases h), fun _ => ⟨w.heap.size, 0, rfl, hb.lt, fun i hi => ?_⟩⟩
  obtain rfl : i = 0 := by simpa using hi
  exact ⟨hb.cell 0, hb.cell 1, hb.cell 2, hb.cell 3⟩
/-- The sign that is repeated. -/
def semi : Tok := ⟨3, [59], 0, 0⟩
theorem semi_right : rightT semi := of_decide_eq_true (by kernel_rfl)
theorem semi_len (n : Nat) : (joinL [32] ((List.replicate n semi).map Tok.text)).length = (n - 1) + n := by
  have h : (List.replicate n semi).map Tok.text = List.replicate n [59] := List.map_replicate
  have h2 : ((List.replicate n ([59] : List UInt8)).map List.length).sum = n := by
    rw [List.map_replicate]
    clear h
    induction n with
    | zero => rfl
    | succ n ih => rw [List.replicate_succ, List.sum_cons, ih]; show 1 + n = n + 1; omega
  rw [joinL_len, h, h2, List.length_replicate]
  simp
theorem semi_all (n : Nat) : ∀ t ∈ List.replicate n semi, rightT t := fun t ht => by rw [(List.mem_replicate.1 ht).2]; exact semi_right
theorem print_semi : printF (List.replicate 2048 semi) = (joinL [32] ((List.replicate 2048 semi).map Tok.text), 0) := printF_ok (semi_all _) (by rw [semi_len]; omega)
theorem print_semi2 : printF (List.replicate 2049 semi) = ([], 3) := printF_long (semi_all _) (by rw [semi_len]; omega)
/-- Block S is a row of 2049 tokens, of which the first k are that sign. -/
def RowK (W : World) (S k : Nat) : Prop := ∃ cs : Array Value, Box W S cs 34 ∧ cs.size = 8196 ∧ ∀ j : Nat, j < k → cs[j * 4]? = some (.int .u8 3) ∧ cs[j * 4 + 1]? = some (.string (bs [59])) ∧ cs[j * 4 + 2]? = some (.int .i64 0) ∧ cs[j * 4 + 3]? = some (.int .i64 0)
theorem RowK.lt {W : World} {S k : Nat} (h : RowK W S k) : S < W.heap.size := by
  obtain ⟨cs, h1, _⟩ := h
  exact h1.lt
theorem RowK.frozen {W : World} {S k : Nat} (h : RowK W S k) (i : Nat) : W.frozen? ⟨S, i, none⟩ = false := by
  obtain ⟨cs, h1, _⟩ := h
  exact h1.frozen i
theorem RowK.cell {W : World} {S k : Nat} (h : RowK W S k) {i : Nat} (hi : i < 8196) : ∃ v, W.cell? ⟨S, i, none⟩ = some v := by
  obtain ⟨cs, h1, h2, _⟩ := h
  exact ⟨cs[i]'(by omega), by rw [h1.cell]; exact Array.getElem?_eq_getElem (by omega)⟩
theorem RowK.set {W : World} {S k : Nat} (h : RowK W S k) (hk : k < 2049) : RowK ((((W.setCell ⟨S, k * 4, none⟩ (.int .u8 3)).setCell ⟨S, k * 4 + 1, none⟩ (.string (bs [59]))).setCell ⟨S, k * 4 + 2, none⟩ (.int .i64 0)).setCell ⟨S, k * 4 + 3, none⟩ (.int .i64 0)) S (k + 1) := by
  obtain ⟨cs, h1, h2, h3⟩ := h
  refine ⟨_, (((h1.set (k * 4) (.int .u8 3)).set (k * 4 + 1) (.string (bs [59]))).set (k * 4 + 2) (.int .i64 0)).set (k * 4 + 3) (.int .i64 0), by simp [h2], fun j hj => ?_⟩
  by_cases he : j = k
  · subst he
    refine ⟨?_, ?_, ?_, ?_⟩
    · rw [Array.getElem?_setIfInBounds_ne (by omega), Array.getElem?_setIfInBounds_ne (by omega), Array.getElem?_setIfInBounds_ne (by omega), Array.getElem?_setIfInBounds_self_of_lt (by omega)]
    · rw [Array.getElem?_setIfInBounds_ne (by omega), Array.getElem?_setIfInBounds_ne (by omega), Array.getElem?_setIfInBounds_self_of_lt (by simp; omega)]
    · rw [Array.getElem?_setIfInBounds_ne (by omega), Array.getElem?_setIfInBounds_self_of_lt (by simp; omega)]
    · rw [Array.getElem?_setIfInBounds_self_of_lt (by simp; omega)]
  · obtain ⟨e0, e1, e2, e3⟩ := h3 j (by omega)
    refine ⟨?_, ?_, ?_, ?_⟩
    · rw [Array.getElem?_setIfInBounds_ne (by omega), Array.getElem?_setIfInBounds_ne (by omega), Array.getElem?_setIfInBounds_ne (by omega), Array.getElem?_setIfInBounds_ne (by omega)]; exact e0
    · rw [Array.getElem?_setIfInBounds_ne (by omega), Array.getElem?_setIfInBounds_ne (by omega), Array.getElem?_setIfInBounds_ne (by omega), Array.getElem?_setIfInBounds_ne (by omega)]; exact e1
    · rw [Array.getElem?_setIfInBounds_ne (by omega), Array.getElem?_setIfInBounds_ne (by omega), Array.getElem?_setIfInBounds_ne (by omega), Array.getElem?_setIfInBounds_ne (by omega)]; exact e2
    · rw [Array.getElem?_setIfInBounds_ne (by omega), Array.getElem?_setIfInBounds_ne (by omega), Array.getElem?_setIfInBounds_ne (by omega), Array.getElem?_setIfInBounds_ne (by omega)]; exact e3
theorem RowK.slk {W : World} {S n : Nat} (h : RowK W S 2049) (hn : n ≤ 2049) : SlK W (.slice (some ⟨S, 0, none⟩) n 2049) (List.replicate n semi) := by
  have hlt := h.lt
  obtain ⟨cs, h1, h2, h3⟩ := h
  refine ⟨fun t ht => ?_, some ⟨S, 0, none⟩, 2049, by rw [List.length_replicate], by rw [List.length_replicate]; exact hn, by omega, (fun h => by cases h), fun _ => ⟨S, 0, rfl, hlt, fun i hi => ?_⟩⟩
  · rw [(List.mem_replicate.1 ht).2]
    exact ⟨by decide, ⟨by decide, by decide⟩, ⟨by decide, by decide⟩, by decide⟩
  · rw [List.length_replicate] at hi
    have ht : tok (List.replicate n semi) i = semi := by rw [tok_get (by rw [List.length_replicate]; exact hi), List.getElem_replicate]
    obtain ⟨e0, e1, e2, e3⟩ := h3 i (by omega)
    rw [ht, Nat.zero_add]
    exact ⟨by rw [h1.cell]; exact e0, by rw [h1.cell]; exact e1, by rw [h1.cell]; exact e2, by rw [h1.cell]; exact e3⟩
def zerosT : Array Value := madeCells #[.int .u8 0, .string ⟨#[]⟩, .int .i64 0, .int .i64 0] 8196
theorem RowK.new (w : World) : RowK (w.alloc (.cells zerosT 34)) w.heap.size 0 := ⟨_, Box.new w _ _, by simp [zerosT, madeCells], fun j hj => by omega⟩
theorem run_makeT (w : World) : (Instr.makeSlice 22 (.int .i64 2049) (.int .i64 2049)).run Tryd.prog w = .ok (.slice (some ⟨w.heap.size, 0, none⟩) 2049 2049) (w.alloc (.cells zerosT 34)) := by
  obtain ⟨i0, hi, hz0, hz1, hz2⟩ := infoT_parts
  have hr := run_make (P := Tryd.prog) w 22 34 i0 _ Tryd.underlying22 hi hz0 .i64 .i64 2049 2049 (by omega) (Int.le_refl _) (by rw [hz2]; omega) (by omega)
  rw [hz1] at hr
  exact hr

set_option maxRecDepth 100000 in
set_option maxHeartbeats 8000000 in
theorem lexisKnown_w (w : World) : Calls Tryd.prog 9 #[] w fun e w' => e = .returned (.bool true) ∧ Below w.heap.size w w' := by
  go_enter Tryd.func9, Tryd.ntmps9
  go_wp2_with fail
  refine (Tokens_c _ [97, 45, 49, 123, 98, 44, 99, 125] (by decide)).mono ?_
  rw [toks_kn]
  rintro e w1 ⟨v, rfl, hv, hb⟩
  have HB := Lib.hid hb
  obtain ⟨b, off, cap, rfl, h1, h2, h3, hc⟩ := hv.lit (by decide)
  simp only at h1 h2 h3 hc
  obtain ⟨_, a1, _, _⟩ := hc w1 (Below.refl _ _) 0 _ rfl
  obtain ⟨_, b1, _, _⟩ := hc w1 (Below.refl _ _) 1 _ rfl
  obtain ⟨_, c1, _, _⟩ := hc w1 (Below.refl _ _) 3 _ rfl
  obtain ⟨_, _, _, d3⟩ := hc w1 (Below.refl _ _) 5 _ rfl
  simp only [Nat.zero_mul, Nat.add_zero, Nat.one_mul, Nat.reduceMul, Nat.add_assoc, Nat.reduceAdd] at a1 b1 c1 d3
  have q1 := list_ba [97, 45, 49]
  have q2 := list_ba [123]
  have q3 := list_ba [44]
  clear hc hv hb
  go_upto_region 6 with fail
  obtain ⟨W2, hW2, bS, bI, bX, hb2⟩ : ∃ W2, W2 = ((w1.alloc (.cells #[.string ⟨#[97, 32, 46, 32, 98]⟩, .string ⟨#[48, 49]⟩, .string ⟨#[32, 65]⟩, .string ⟨#[120, 32, 45]⟩, .string ⟨#[97, 98, 99, 100, 101, 102, 103, 104, 105, 106, 107, 108, 32, 97, 98, 99, 100, 101, 102, 103, 104, 105, 106, 107, 108, 109]⟩, .string ⟨#[57, 57, 57, 57, 57, 57, 57, 57, 57, 32, 49, 48, 48, 48, 48, 48, 48, 48, 48, 48]⟩, .string ⟨#[48, 49, 50, 51, 52, 53, 54, 55, 56, 57]⟩, .string ⟨#[97, 95, 98]⟩, .string ⟨#[120, 34]⟩, .string ⟨#[49, 97, 32, 50]⟩] 9)).alloc (.cells #[.int .i64 2, .int .i64 0, .int .i64 1, .int .i64 2, .int .i64 13, .int .i64 10, .int .i64 0, .int .i64 1, .int .i64 1, .int .i64 0] 3)).alloc (.cells #[.int .i64 4, .int .i64 4, .int .i64 4, .int .i64 4, .int .i64 3, .int .i64 3, .int .i64 4, .int .i64 4, .int .i64 4, .int .i64 0] 23) ∧
      Box W2 w1.heap.size knS 9 ∧ Box W2 (w1.heap.size + 1) knI 3 ∧ Box W2 (w1.heap.size + 1 + 1) knX 23 ∧ Below w1.heap.size w1 W2 :=
    ⟨_, rfl, threeA rfl, threeB rfl, threeC rfl, ((((Below.refl _ w1).alloc (Nat.le_refl _) _).alloc (by simp) _).alloc (by simp; omega) _)⟩
  rw [← hW2]
  have BS := Lib.hid bS
  have BI := Lib.hid bI
  have BX := Lib.hid bX
  have HB2 := Lib.hid (HB.out.trans (hb2.mono HB.out.size))
  clear hW2 hb2 a1 b1 c1 d3 bS bI bX q1 q2 q3
  go_wp2_with fail
  go_loopw [8] (fun t wx => ∃ k : Nat, k ≤ 10 ∧ t = .int .i64 (k : Int) ∧ Hid (Below W2.heap.size W2 wx)) (fun t _ => 10 - (intOf t).toNat)
  case atStart => exact ⟨0, Nat.zero_le _, rfl, Below.refl _ _⟩
  case round =>
    obtain ⟨k, hk, rfl, hb⟩ := hrel
    by_cases hlt : k < 10
    · obtain ⟨us, hus⟩ := kn_toks hlt
      have HUS := Lib.hid hus
      have s0 : wr.cell? ⟨w1.heap.size, k, none⟩ = some (.string (bs (knT k))) := ((BS.out.after hb.out).cell k).trans (knS_at hlt)
      have hl := kn_len (k := k)
      have HI : Hid (∀ W, Below W2.heap.size W2 W → W.cell? ⟨w1.heap.size + 1, k, none⟩ = some (.int .i64 (knO k))) := fun W h => ((BI.out.after h).cell k).trans (knI_at hlt)
      have HX : Hid (∀ W, Below W2.heap.size W2 W → W.cell? ⟨w1.heap.size + 1 + 1, k, none⟩ = some (.int .i64 ((knE k : Nat) : Int))) := fun W h => ((BX.out.after h).cell k).trans (knX_at hlt)
      obtain ⟨tx, htx⟩ : ∃ tx, knT k = tx := ⟨_, rfl⟩
      obtain ⟨oo, hoo⟩ : ∃ oo, knO k = oo := ⟨_, rfl⟩
      obtain ⟨ee, hee⟩ : ∃ ee, knE k = ee := ⟨_, rfl⟩
      rw [htx] at s0 hl HUS
      rw [hoo] at HI HUS
      rw [hee] at HX HUS
      have hlt5 := (BS.out.after hb.out).lt
      clear hus htx hoo hee
      go_wp2_with fail
      refine (Tokens_c _ tx hl).mono ?_
      rw [HUS.out]
      rintro e w3 ⟨u, rfl, hu, hb3⟩
      have hb4 := hb.out.trans (hb3.mono hb.out.size)
      have i0 := HI.out w3 hb4
      have x0 := HX.out w3 hb4
      have HB4 := Lib.hid hb4
      have hlt6 := (BX.out.after hb4).lt
      obtain ⟨a5, c5, rfl, _⟩ := hu.shape
      clear hu hb3 hb4 s0
      go_wp2_with fail
      go_roundw
      case rel => exact ⟨k + 1, by omega, by go_num, HB4.out⟩
      case measure => simp [intOf]; omega
    · obtain rfl : k = 10 := by omega
      have HB3 := Lib.hid (HB2.out.trans (hb.out.mono HB2.out.size))
      clear hlt hk
      go_wp2_with fail
      refine (Print_c _ _ [⟨1, [97, 32, 98], 0, 0⟩] (SlK.one wr 1 [97, 32, 98] 0 0 ⟨by decide, ⟨by decide, by decide⟩, ⟨by decide, by decide⟩, by decide⟩) (by decide)).mono ?_
      rw [print_k1]
      rintro e w4 ⟨rfl, hbw4⟩
      have HBw4 := Lib.hid ((held_alloc HB3.out HB3.out.size).trans (hbw4.mono (held_alloc HB3.out HB3.out.size).size))
      clear hbw4
      go_wp2_with fail
      refine (Print_c _ _ [⟨2, [53], 6, 0⟩] (SlK.one w4 2 [53] 6 0 ⟨by decide, ⟨by decide, by decide⟩, ⟨by decide, by decide⟩, by decide⟩) (by decide)).mono ?_
      rw [print_k2]
      rintro e w5 ⟨rfl, hbw5⟩
      have HBw5 := Lib.hid ((held_alloc HBw4.out HBw4.out.size).trans (hbw5.mono (held_alloc HBw4.out HBw4.out.size).size))
      clear hbw5
      go_wp2_with fail
      refine (Print_c _ _ [⟨3, [61, 61], 0, 0⟩] (SlK.one w5 3 [61, 61] 0 0 ⟨by decide, ⟨by decide, by decide⟩, ⟨by decide, by decide⟩, by decide⟩) (by decide)).mono ?_
      rw [print_k3]
      rintro e w6 ⟨rfl, hbw6⟩
      have HBw6 := Lib.hid ((held_alloc HBw5.out HBw5.out.size).trans (hbw6.mono (held_alloc HBw5.out HBw5.out.size).size))
      clear hbw6
      have hmk := run_makeT
      go_upto_region 16 with fail
      obtain ⟨w7, hw7⟩ : ∃ w7, w7 = w6.alloc (.cells zerosT 34) := ⟨_, rfl⟩
      have HR7 : Hid (RowK w7 w6.heap.size 0) := hw7 ▸ RowK.new w6
      have HB7 : Hid (Below w.heap.size w w7) := hw7 ▸ held_alloc HBw6.out HBw6.out.size
      have hle6 := HBw6.out.size
      rw [← hw7]
      clear hw7 hmk
      go_wp2_with fail
      go_loopw [19] (fun t wx => ∃ k : Nat, k ≤ 2049 ∧ t = .int .i64 (k : Int) ∧ Hid (RowK wx w6.heap.size k) ∧ Hid (Below w.heap.size w wx)) (fun t _ => 2049 - (intOf t).toNat)
      case atStart => exact ⟨0, Nat.zero_le _, rfl, HR7.out, HB7.out⟩
      case round =>
        obtain ⟨k, hk, rfl, hrow, hbw⟩ := hrel
        by_cases hlt : k < 2049
        · have HS := Lib.hid (hrow.out.set hlt)
          have HBS : Hid (Below w.heap.size w ((((wr.setCell ⟨w6.heap.size, k * 4, none⟩ (.int .u8 3)).setCell ⟨w6.heap.size, k * 4 + 1, none⟩ (.string (bs [59]))).setCell ⟨w6.heap.size, k * 4 + 2, none⟩ (.int .i64 0)).setCell ⟨w6.heap.size, k * 4 + 3, none⟩ (.int .i64 0))) :=
            (((hbw.out.setCell (p := ⟨w6.heap.size, k * 4, none⟩) hle6 _).setCell (p := ⟨w6.heap.size, k * 4 + 1, none⟩) hle6 _).setCell (p := ⟨w6.heap.size, k * 4 + 2, none⟩) hle6 _).setCell (p := ⟨w6.heap.size, k * 4 + 3, none⟩) hle6 _
          obtain ⟨v0, r0⟩ := hrow.out.cell (i := k * 4) (by omega)
          obtain ⟨v1, r1⟩ := hrow.out.cell (i := k * 4 + 1) (by omega)
          obtain ⟨v2, r2⟩ := hrow.out.cell (i := k * 4 + 2) (by omega)
          obtain ⟨v3, r3⟩ := hrow.out.cell (i := k * 4 + 3) (by omega)
          have f0 := hrow.out.frozen (k * 4)
          have f1 := hrow.out.frozen (k * 4 + 1)
          have f2 := hrow.out.frozen (k * 4 + 2)
          have f3 := hrow.out.frozen (k * 4 + 3)
          have hlt6 := hrow.out.lt
          clear hrow
          go_wp2_with fail
          go_roundw
          case rel => exact ⟨k + 1, by omega, by go_num, HS.out, HBS.out⟩
          case measure => simp [intOf]; omega
        · obtain rfl : k = 2049 := by omega
          have S1 := Lib.hid (hrow.out.slk (n := 2048) (by omega))
          have S2 := Lib.hid (hrow.out.slk (n := 2049) (by omega))
          clear hrow hlt hk
          go_wp2_with fail
          refine (Print_c _ _ _ S1.out (by rw [List.length_replicate]; omega)).mono ?_
          rw [print_semi]
          rintro e w8 ⟨rfl, hb8⟩
          have HB8 := Lib.hid (hbw.out.trans (hb8.mono hbw.out.size))
          have S3 := Lib.hid (S2.out.after hb8)
          clear hb8
          obtain ⟨yy, hyy⟩ : ∃ yy, joinL [32] ((List.replicate 2048 semi).map Tok.text) = yy := ⟨_, rfl⟩
          rw [hyy]
          clear hyy
          go_wp2_with fail
          refine (Print_c _ _ _ S3.out (by rw [List.length_replicate]; omega)).mono ?_
          rw [print_semi2]
          rintro e w9 ⟨rfl, hb9⟩
          have HB9 := Lib.hid (HB8.out.trans (hb9.mono HB8.out.size))
          clear hb9
          go_wp2_with fail
          refine (Tokens_c _ [35] (by decide)).mono ?_
          rw [toks_hash]
          rintro e w10 ⟨u, rfl, hu, hb10⟩
          obtain ⟨a5, c5, rfl, _⟩ := hu.shape
          have HB10 := Lib.hid (HB9.out.trans (hb10.mono HB9.out.size))
          clear hu hb10
          go_wp2_with fail
          refine (awake_c _).mono ?_
          rintro e w11 ⟨rfl, hb11⟩
          have HB11 := Lib.hid (HB10.out.trans (hb11.mono HB10.out.size))
          clear hb11
          go_wp2_with fail
          go_ret
          exact ⟨rfl, HB11.out⟩
end Go.Proofs.YtnifndolopnbfaaDoor
