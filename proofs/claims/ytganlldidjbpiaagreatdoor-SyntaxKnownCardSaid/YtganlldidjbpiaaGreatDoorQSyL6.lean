/- Walks of the statements about layer 2: SyntaxKnown. -/
import Derived.Test.YtganlldidjbpiaaGreatDoorK25
set_option linter.unusedVariables false
namespace Go.Proofs.YtganlldidjbpiaaGreatDoor
open Go.RowKit Go.Shelf

def k1S : List UInt8 := [115, 101, 114, 118, 105, 99, 101, 32, 119, 101, 98, 123, 99, 111, 114, 101, 115, 32, 50, 59, 110, 101, 97, 114, 32, 100, 98, 32, 119, 105, 116, 104, 105, 110, 32, 53, 59, 125]
def k1T : List UInt8 := [115, 101, 114, 118, 105, 99, 101, 32, 119, 101, 98, 32, 123, 32, 99, 111, 114, 101, 115, 32, 50, 32, 59, 32, 110, 101, 97, 114, 32, 100, 98, 32, 119, 105, 116, 104, 105, 110, 32, 53, 32, 59, 32, 125]
def k1L : List Cl := [.mk 1 [[119, 101, 98]] 0 0 0 0 [.mk 6 [] 0 0 2 0 [] 12, .mk 11 [[100, 98]] 0 0 5 0 [] 20] 0]
theorem parse_k1 : parseF k1S = (k1L, 0, 0) := by kernel_rfl
theorem print_k1 : printC k1L = (k1T, 0) := by
  have ht : textC k1L = k1T := by
    show joinL [32] [sService, [119, 101, 98], sOpen, sCores, numW 2, sSemi, sNear, [100, 98], sWithin, numW 5, sSemi, sClose] = k1T
    rw [show numW 2 = [50] from dd_small (n := 2) (by decide), show numW 5 = [53] from dd_small (n := 5) (by decide)]
    kernel_rfl
  rw [printC_yes (by kernel_rfl), ht, if_neg (by decide)]
def kTs : List (List UInt8) := [[98, 108, 97, 115, 116, 59], [115, 101, 114, 118, 105, 99, 101, 32, 114, 97, 99, 107, 32, 123, 125], [99, 111, 114, 101, 115, 32, 50, 59], [115, 101, 114, 118, 105, 99, 101, 32, 97, 32, 123, 32, 98, 108, 97, 115, 116, 32, 49, 59], [115, 101, 114, 118, 105, 99, 101, 32, 97, 32, 123, 32, 99, 111, 114, 101, 115, 32, 49, 32, 125], [119, 105, 110, 100, 111, 119, 32, 102, 114, 111, 109, 32, 49, 32, 116, 111, 32, 50, 59], [119, 105, 110, 100, 111, 119, 32, 114, 97, 99, 107, 32, 49, 32, 102, 114, 111, 109, 32, 50, 59], [99, 97, 112, 32, 104, 111, 115, 116, 32, 49, 32, 97, 116, 32, 50, 59], [99, 97, 112, 32, 102, 101, 101, 100, 32, 49, 32, 50, 59], [97, 112, 112, 114, 111, 118, 101, 32, 108, 111, 111, 112, 59], [115, 101, 114, 118, 105, 99, 101, 32, 97, 32, 123, 32, 115, 112, 114, 101, 97, 100, 32, 49, 32, 112, 101, 114, 32, 99, 111, 114, 101, 115, 59, 32, 125], [115, 101, 114, 118, 105, 99, 101, 32, 97, 32, 123, 32, 97, 112, 97, 114, 116, 32, 98, 44, 59, 32, 125], [115, 101, 114, 118, 105, 99, 101, 32, 97, 32, 123, 32, 110, 101, 97, 114, 32, 53, 32, 119, 105, 116, 104, 105, 110, 32, 98, 59, 32, 125], [115, 101, 114, 118, 105, 99, 101, 32, 97, 32, 123], [98, 108, 97, 115, 116, 32, 49], [125, 32], [115, 101, 114, 118, 105, 99, 101, 32, 97, 32, 123, 32, 99, 111, 114, 101, 115, 32, 49, 59, 32, 125, 59]]
def kOs : List Int := [5, 8, 0, 12, 20, 7, 20, 4, 11, 12, 25, 20, 17, 11, 7, 0, 22]
theorem parse_kt : ((List.range 17).all fun i => (parseF (kTs.getD i [])).1.isEmpty && ((parseF (kTs.getD i [])).2 == (kOs.getD i 0, 4) && decide ((kTs.getD i []).length ≤ 100))) = true := by kernel_rfl
theorem parse_at {i : Nat} (hi : i < 17) : parseF (kTs.getD i []) = ([], kOs.getD i 0, 4) ∧ (kTs.getD i []).length ≤ 100 := by
  have h := List.all_eq_true.1 parse_kt i (List.mem_range.2 hi)
  simp only [Bool.and_eq_true, decide_eq_true_eq, List.isEmpty_iff, beq_iff_eq] at h
  exact ⟨Prod.ext h.1 h.2.1, h.2.2⟩
def kTA : Array Value := (kTs.map fun x => Value.string (bs x)).toArray
def kOA : Array Value := (kOs.map fun x => Value.int .i64 x).toArray
theorem kTA_lit : (#[.string ⟨#[98, 108, 97, 115, 116, 59]⟩, .string ⟨#[115, 101, 114, 118, 105, 99, 101, 32, 114, 97, 99, 107, 32, 123, 125]⟩, .string ⟨#[99, 111, 114, 101, 115, 32, 50, 59]⟩, .string ⟨#[115, 101, 114, 118, 105, 99, 101, 32, 97, 32, 123, 32, 98, 108, 97, 115, 116, 32, 49, 59]⟩, .string ⟨#[115, 101, 114, 118, 105, 99, 101, 32, 97, 32, 123, 32, 99, 111, 114, 101, 115, 32, 49, 32, 125]⟩, .string ⟨#[119, 105, 110, 100, 111, 119, 32, 102, 114, 111, 109, 32, 49, 32, 116, 111, 32, 50, 59]⟩, .string ⟨#[119, 105, 110, 100, 111, 119, 32, 114, 97, 99, 107, 32, 49, 32, 102, 114, 111, 109, 32, 50, 59]⟩, .string ⟨#[99, 97, 112, 32, 104, 111, 115, 116, 32, 49, 32, 97, 116, 32, 50, 59]⟩, .string ⟨#[99, 97, 112, 32, 102, 101, 101, 100, 32, 49, 32, 50, 59]⟩, .string ⟨#[97, 112, 112, 114, 111, 118, 101, 32, 108, 111, 111, 112, 59]⟩, .string ⟨#[115, 101, 114, 118, 105, 99, 101, 32, 97, 32, 123, 32, 115, 112, 114, 101, 97, 100, 32, 49, 32, 112, 101, 114, 32, 99, 111, 114, 101, 115, 59, 32, 125]⟩, .string ⟨#[115, 101, 114, 118, 105, 99, 101, 32, 97, 32, 123, 32, 97, 112, 97, 114, 116, 32, 98, 44, 59, 32, 125]⟩, .string ⟨#[115, 101, 114, 118, 105, 99, 101, 32, 97, 32, 123, 32, 110, 101, 97, 114, 32, 53, 32, 119, 105, 116, 104, 105, 110, 32, 98, 59, 32, 125]⟩, .string ⟨#[115, 101, 114, 118, 105, 99, 101, 32, 97, 32, 123]⟩, .string ⟨#[98, 108, 97, 115, 116, 32, 49]⟩, .string ⟨#[125, 32]⟩, .string ⟨#[115, 101, 114, 118, 105, 99, 101, 32, 97, 32, 123, 32, 99, 111, 114, 101, 115, 32, 49, 59, 32, 125, 59]⟩] : Array Value) = kTA := by kernel_rfl
theorem kOA_lit : (#[.int .i64 5, .int .i64 8, .int .i64 0, .int .i64 12, .int .i64 20, .int .i64 7, .int .i64 20, .int .i64 4, .int .i64 11, .int .i64 12, .int .i64 25, .int .i64 20, .int .i64 17, .int .i64 11, .int .i64 7, .int .i64 0, .int .i64 22] : Array Value) = kOA := by kernel_rfl
theorem kTA_at {i : Nat} (hi : i < 17) : kTA[i]? = some (.string (bs (kTs.getD i []))) := by
  unfold kTA
  rw [List.getElem?_toArray, List.getElem?_map, List.getD_eq_getElem?_getD, List.getElem?_eq_getElem (show i < kTs.length from hi)]
  rfl
theorem kOA_at {i : Nat} (hi : i < 17) : kOA[i]? = some (.int .i64 (kOs.getD i 0)) := by
  unfold kOA
  rw [List.getElem?_toArray, List.getElem?_map, List.getD_eq_getElem?_getD, List.getElem?_eq_getElem (show i < kOs.length from hi)]
  rfl
def k2S : List UInt8 := [115, 101, 114, 118, 105, 99, 101, 32, 97, 32, 123, 32, 97, 112, 97, 114, 116, 32, 98, 44, 32, 99, 45, 49, 59, 32, 115, 112, 114, 101, 97, 100, 32, 50, 32, 112, 101, 114, 32, 108, 111, 111, 112, 59, 32, 102, 105, 114, 109, 119, 97, 114, 101, 32, 51, 59, 32, 108, 101, 97, 115, 116, 32, 49, 59, 32, 114, 101, 112, 108, 105, 99, 97, 115, 32, 52, 59, 32, 125, 32, 119, 105, 110, 100, 111, 119, 32, 102, 101, 101, 100, 32, 48, 32, 102, 114, 111, 109, 32, 49, 48, 32, 116, 111, 32, 50, 48, 59, 32, 99, 97, 112, 32, 102, 101, 101, 100, 32, 49, 32, 97, 116, 32, 53, 48, 48, 59]
def k2L : List Cl := [.mk 1 [[97]] 0 0 0 0 [.mk 10 [[98], [99, 45, 49]] 0 0 0 0 [] 12, .mk 9 [] 5 0 2 0 [] 26, .mk 12 [] 0 0 3 0 [] 45, .mk 8 [] 0 0 1 0 [] 57, .mk 7 [] 0 0 4 0 [] 66] 0, .mk 2 [] 4 0 10 20 [] 80, .mk 5 [] 0 1 500 0 [] 109]
theorem parse_k2 : parseF k2S = (k2L, 0, 0) := by kernel_rfl
def k3S : List UInt8 := [32, 35, 32, 110, 111, 116, 104, 105, 110, 103]
theorem parse_k3 : parseF k3S = ([], 0, 0) := by kernel_rfl
/-- One clause, laid in a block. -/
theorem SlC.one {D : Nat → Prop} {w : World} {b : Nat} {c : Cl} {vn vi : Value} (hb : Box w b (clV c vn vi).toArray 43) (hc : HasC D w vn vi c) : SlC (fun x => x = b ∨ D x) w (.slice (some ⟨b, 0, none⟩) 1 1) [c] := by
  refine ⟨[(vn, vi)], ⟨some ⟨b, 0, none⟩, 1, rfl, Nat.le_refl _, by omega, (fun h => by cases h), fun _ => ⟨b, 0, rfl, .inl rfl, hb.lt, fun i hi j hj => ?_⟩⟩, ?_⟩
  · obtain rfl : i = 0 := by simp at hi; omega
    have := hb.cell j
    rw [show 0 + 0 * 8 + j = j by omega, this]
    unfold clF
    rw [List.getD_eq_getElem?_getD (l := clV _ _ _), List.getElem?_toArray]
    show (clV c vn vi)[j]? = some (((clV c vn vi)[j]?).getD undef)
    rw [List.getElem?_eq_getElem (show j < (clV c vn vi).length from hj)]
    rfl
  · rw [HasL]
    exact ⟨HasC.mono (fun b hb _ => .inr hb) c hc, by rw [HasL]; trivial⟩
theorem SlN.one1 {w : World} {b : Nat} {n : List UInt8} (hn : n.length ≤ 9223372036854775807) (hb : Box w b #[.string (bs n)] 9) : SlN (fun x => x = b) w (.slice (some ⟨b, 0, none⟩) 1 1) [n] := by
  refine ⟨by simpa using hn, some ⟨b, 0, none⟩, 1, rfl, Nat.le_refl _, by omega, (fun h => by cases h), fun _ => ⟨b, 0, rfl, rfl, hb.lt, fun i hi j hj => ?_⟩⟩
  obtain rfl : i = 0 := by simp at hi; omega
  obtain rfl : j = 0 := by omega
  exact hb.cell 0
theorem print_c0 : printC [.mk 6 [] 0 0 1 0 [] 0] = ([], 1) := printC_no (by kernel_rfl)
theorem print_c1 : printC [.mk 4 [] 0 0 1 1 [] 0] = ([], 1) := printC_no (by kernel_rfl)
theorem print_c2 : printC [.mk 3 [] 0 0 0 0 [] 0] = ([], 1) := printC_no (by kernel_rfl)
theorem print_c3 : printC [.mk 1 [[114, 111, 119]] 0 0 0 0 [] 0] = ([], 1) := printC_no (by kernel_rfl)
theorem print_c4 : printC [.mk 4 [] 0 0 1000000000 0 [] 0] = ([], 1) := printC_no (by kernel_rfl)
set_option maxRecDepth 100000 in
set_option maxHeartbeats 16000000 in
theorem syntaxKnown_w (N : Nat) (w : World) (hN : N ≤ w.heap.size) (he : Wds N w) (ht : Tab10 w) : Calls Tryz.prog 9 #[] w (RetB w true) := by
  have HE := Lib.hid he
  have HT := Lib.hid ht
  have HK3 := Lib.hid parse_k3
  clear he ht
  go_enter Tryz.func9, Tryz.ntmps9
  go_wp2_with fail
  refine (Parse_c N _ k1S (by decide) hN HE.out).mono ?_
  rw [parse_k1]
  rintro e w1 ⟨va, rfl, hv, hb⟩
  have HB1 := Lib.hid (hb)
  have hN1 : N ≤ w1.heap.size := Nat.le_trans hN hb.size
  have HE1 := Lib.hid (HE.out.after hb)
  have HT1 := Lib.hid (HT.out.after hb)
  have VA := Lib.hid hv
  obtain ⟨b1, o1, c1, rfl, k1, kk1, _, _, _⟩ := hv.at_ (by decide)
  simp only at k1 kk1
  clear hv hb
  go_wp2_with fail
  refine (SPrint_all N _ _ _ _ VA.out hN1 HE1.out HT1.out (fun _ => by decide)).mono ?_
  rw [print_k1]
  rintro e w2 ⟨rfl, hb⟩
  have HB2 := Lib.hid (HB1.out.trans (hb.mono HB1.out.size))
  have hN2 : N ≤ w2.heap.size := Nat.le_trans hN1 hb.size
  have HE2 := Lib.hid (HE1.out.after hb)
  have HT2 := Lib.hid (HT1.out.after hb)
  replace VA := Lib.hid (VA.out.after hb)
  clear hb
  obtain ⟨b, off, cap, e, _, _, _, lb, hc⟩ := VA.out.at_ (by decide)
  injection e with e _ ec
  injection e with e
  injection e with e1 e2 _
  subst e1 e2 ec
  obtain ⟨_, vi, hcl, _, _, _, _, _, _, x6, _⟩ := hc 0 (by decide)
  obtain ⟨bi, oi, ci, rfl, ki, kki, _, li, hci⟩ := (hasC_iff.1 hcl).2.2.at_ (by decide)
  obtain ⟨_, _, _, _, _, _, _, _, _, _, y7⟩ := hci 0 (by decide)
  obtain ⟨vn, _, hcn, _, z1, _, _, z4, _, _, _⟩ := hci 1 (by decide)
  obtain ⟨bn, on, cn, rfl, kn, kkn, _, ln, hcs⟩ := (hasC_iff.1 hcn).2.1.2.at_ (by decide)
  have n0 := hcs 0 (by decide) 0 (by decide)
  have x6 : w2.cell? ⟨b1, o1 + 6, none⟩ = some (.slice (some ⟨bi, oi, none⟩) 2 ci) := x6
  have y7 : w2.cell? ⟨bi, oi + 7, none⟩ = some (.int .i64 12) := y7
  have z1 : w2.cell? ⟨bi, oi + 9, none⟩ = some (.slice (some ⟨bn, on, none⟩) 1 cn) := z1
  have z4 : w2.cell? ⟨bi, oi + 12, none⟩ = some (.int .i64 5) := z4
  have n0 : w2.cell? ⟨bn, on, none⟩ = some (.string (bs [100, 98])) := n0
  have q1 : (bs k1T).toList = [115, 101, 114, 118, 105, 99, 101, 32, 119, 101, 98, 32, 123, 32, 99, 111, 114, 101, 115, 32, 50, 32, 59, 32, 110, 101, 97, 114, 32, 100, 98, 32, 119, 105, 116, 104, 105, 110, 32, 53, 32, 59, 32, 125] := list_bs _
  have q2 : (bs [100, 98]).toList = [100, 98] := list_bs _
  clear hc hcl hci hcn hcs
  obtain ⟨W3, hW3⟩ : ∃ W, W = w2.alloc (.cells kTA 9) := ⟨_, rfl⟩
  obtain ⟨W4, hW4⟩ : ∃ W, W = W3.alloc (.cells kOA 3) := ⟨_, rfl⟩
  have hb3 : Below w2.heap.size w2 W3 := hW3 ▸ held_alloc (Below.refl _ w2)
  have hb4 : Below W3.heap.size W3 W4 := hW4 ▸ held_alloc (Below.refl _ W3)
  have hs3 : W3.heap.size = w2.heap.size + 1 := by rw [hW3]; simp
  have bt : Box W3 w2.heap.size kTA 9 := hW3 ▸ Box.new w2 _ _
  have bo : Box W4 W3.heap.size kOA 3 := hW4 ▸ Box.new W3 _ _
  have bt4 := bt.after hb4
  rw [hs3] at bo
  have hb24 : Below w2.heap.size w2 W4 := hb3.trans (hb4.mono (by omega))
  have HBT := Lib.hid bt4
  have HBO := Lib.hid bo
  have HB4 := Lib.hid (HB2.out.trans (hb24.mono HB2.out.size))
  have hN4 : N ≤ W4.heap.size := Nat.le_trans hN2 hb24.size
  have HE4 := Lib.hid (HE2.out.after hb24)
  have HT4 := Lib.hid (HT2.out.after hb24)
  have HS3 := Lib.hid hs3
  clear bt bt4 bo hb3 hb4 hb24 hs3 VA
  go_wp2_with fail
  rw [kTA_lit, ← hW3, kOA_lit, ← hW4]
  clear hW3 hW4 x6 y7 z1 z4 n0
  go_loopg [9] 17 (fun g t wx => ∃ i : Nat, i ≤ 17 ∧ g = 17 - i ∧ t = .int .i64 (i : Int) ∧ Hid (Below W4.heap.size W4 wx))
  case atStart => exact ⟨0, by omega, rfl, rfl, Below.refl _ _⟩
  case round =>
    obtain ⟨i, hi, rfl, rfl, hbl⟩ := hrel
    have hNx := Nat.le_trans hN4 hbl.out.size
    by_cases hlt : i < 17
    · obtain ⟨hp, hpl⟩ := parse_at hlt
      have kt : wr.cell? ⟨w2.heap.size, i, none⟩ = some (.string (bs (kTs.getD i []))) := keep_cell hbl.out ((HBT.out.cell i).trans (kTA_at hlt))
      have ko : wr.cell? ⟨w2.heap.size + 1, i, none⟩ = some (.int .i64 (kOs.getD i 0)) := keep_cell hbl.out ((HBO.out.cell i).trans (kOA_at hlt))
      obtain ⟨x, hx⟩ : ∃ x, kTs.getD i [] = x := ⟨_, rfl⟩
      obtain ⟨z, hz⟩ : ∃ z, kOs.getD i 0 = z := ⟨_, rfl⟩
      rw [hx] at kt hp hpl
      rw [hz] at ko hp
      have HP := Lib.hid hp
      have il : (i : Int) < 17 := by omega
      have il2 : decide ((i : Int) < 17) = true := decide_eq_true il
      have i0 : (0 : Int) ≤ (i : Int) := by omega
      have l1 := World.block_lt_of_cell? _ _ kt
      have l2 := World.block_lt_of_cell? _ _ ko
      simp only at l1 l2
      clear hx hz hp
      go_wp2_with fail
      refine (Parse_c N _ x (by omega) hNx (HE4.out.after hbl.out)).mono ?_
      rw [HP.out]
      rintro e w5 ⟨v5, rfl, hv, hb⟩
      have ko := keep_cell hb ko
      have l2 := World.block_lt_of_cell? _ _ ko
      simp only at l2
      have q3 : (z != z) = false := by simp
      have HB5 := Lib.hid (hbl.out.trans (hb.mono hbl.out.size))
      clear hv hb kt
      go_wp2_with fail
      go_roundg (17 - (i + 1))
      case measure => omega
      case rel => exact ⟨i + 1, by omega, rfl, by go_num, HB5.out⟩
    · obtain rfl : i = 17 := by omega
      have il2 : decide ((17 : Int) < 17) = false := rfl
      have HB5 := Lib.hid (HB4.out.trans (hbl.out.mono HB4.out.size))
      have HE5 := Lib.hid (HE4.out.after hbl.out)
      have HT5 := Lib.hid (HT4.out.after hbl.out)
      clear hbl hlt hi
      go_wp2_with fail
      refine (Parse_c N _ k2S (by decide) hNx HE5.out).mono ?_
      rw [parse_k2]
      rintro e w6 ⟨v6, rfl, hv, hb⟩
      have HB6 := Lib.hid (HB5.out.trans (hb.mono HB5.out.size))
      have hN6 : N ≤ w6.heap.size := Nat.le_trans hNx hb.size
      have HE6 := Lib.hid (HE5.out.after hb)
      have HT6 := Lib.hid (HT5.out.after hb)
      obtain ⟨b6, o6, c6, rfl, k6, kk6, _, lb6, hc⟩ := hv.at_ (by decide)
      simp only at k6 kk6
      obtain ⟨_, vi, hcl, _, _, _, _, _, _, x6, _⟩ := hc 0 (by decide)
      obtain ⟨_, _, _, _, _, r2, _, r4, r5, _, _⟩ := hc 1 (by decide)
      obtain ⟨_, _, _, s0, _, _, s3, s4, _, _, _⟩ := hc 2 (by decide)
      obtain ⟨bi, oi, ci, rfl, ki, kki, _, li, hci⟩ := (hasC_iff.1 hcl).2.2.at_ (by decide)
      obtain ⟨vn, _, hcn, _, y1, _, _, _, _, _, _⟩ := hci 0 (by decide)
      obtain ⟨_, _, _, _, _, y2, _, y4, _, _, _⟩ := hci 1 (by decide)
      obtain ⟨_, _, _, y5, _, _, _, _, _, _, _⟩ := hci 2 (by decide)
      obtain ⟨_, _, _, y6, _, _, _, _, _, _, _⟩ := hci 4 (by decide)
      obtain ⟨bn, on, cn, rfl, kn, kkn, _, ln, hcs⟩ := (hasC_iff.1 hcn).2.1.2.at_ (by decide)
      have n1 := hcs 1 (by decide) 0 (by decide)
      have x6 : w6.cell? ⟨b6, o6 + 6, none⟩ = some (.slice (some ⟨bi, oi, none⟩) 5 ci) := x6
      have r2 : w6.cell? ⟨b6, o6 + 10, none⟩ = some (.int .u8 4) := r2
      have r4 : w6.cell? ⟨b6, o6 + 12, none⟩ = some (.int .i64 10) := r4
      have r5 : w6.cell? ⟨b6, o6 + 13, none⟩ = some (.int .i64 20) := r5
      have s0 : w6.cell? ⟨b6, o6 + 16, none⟩ = some (.int .u8 5) := s0
      have s3 : w6.cell? ⟨b6, o6 + 19, none⟩ = some (.int .i64 1) := s3
      have s4 : w6.cell? ⟨b6, o6 + 20, none⟩ = some (.int .i64 500) := s4
      have y1 : w6.cell? ⟨bi, oi + 1, none⟩ = some (.slice (some ⟨bn, on, none⟩) 2 cn) := y1
      have y2 : w6.cell? ⟨bi, oi + 10, none⟩ = some (.int .u8 5) := y2
      have y4 : w6.cell? ⟨bi, oi + 12, none⟩ = some (.int .i64 2) := y4
      have y5 : w6.cell? ⟨bi, oi + 16, none⟩ = some (.int .u8 12) := y5
      have y6 : w6.cell? ⟨bi, oi + 32, none⟩ = some (.int .u8 7) := y6
      have n1 : w6.cell? ⟨bn, on + 1, none⟩ = some (.string (bs [99, 45, 49])) := n1
      have q4 : (bs [99, 45, 49]).toList = [99, 45, 49] := list_bs _
      clear hc hcl hci hcn hcs hv hb
      go_upto_region 16 with fail
      go_wp2_with fail
      clear x6 r2 r4 r5 s0 s3 s4 y1 y2 y4 y5 y6 n1
      obtain ⟨U0, hU0⟩ : ∃ W, W = w6.alloc (.cells #[.int .u8 6, .slice none 0 0, .int .u8 0, .int .i64 0, .int .i64 1, .int .i64 0, .slice none 0 0, .int .i64 0] 43) := ⟨_, rfl⟩
      have hbu : Below w6.heap.size w6 U0 := hU0 ▸ held_alloc (Below.refl _ _)
      have bxx : Box U0 w6.heap.size #[.int .u8 6, .slice none 0 0, .int .u8 0, .int .i64 0, .int .i64 1, .int .i64 0, .slice none 0 0, .int .i64 0] 43 := hU0 ▸ Box.new w6 _ _
      have HBX : Hid (SlC (fun x => x = w6.heap.size ∨ False) U0 (.slice (some ⟨w6.heap.size, 0, none⟩) 1 1) [.mk 6 [] 0 0 1 0 [] 0]) := SlC.one (D := fun _ => False) (vn := .slice none 0 0) (vi := .slice none 0 0) bxx (hasC_iff.2 ⟨⟨by decide, by decide, ⟨by decide, by decide⟩, ⟨by decide, by decide⟩, ⟨by decide, by decide⟩, ⟨by decide, by decide⟩⟩, SlN.nil _ _, SlC.nil _ _⟩)
      clear bxx
      have HBU := Lib.hid (HB6.out.trans (hbu.mono HB6.out.size))
      have hNU : N ≤ U0.heap.size := Nat.le_trans hN6 hbu.size
      have HEU := Lib.hid (HE6.out.after hbu)
      have HTU := Lib.hid (HT6.out.after hbu)
      clear hbu

      rw [← hU0]
      clear hU0
      refine (SPrint_all N _ _ _ _ HBX.out hNU HEU.out HTU.out (fun _ => by decide)).mono ?_
      rw [print_c0]
      rintro e w7 ⟨rfl, hb⟩
      have HB7 := Lib.hid (HBU.out.trans (hb.mono HBU.out.size))
      have hN7 : N ≤ w7.heap.size := Nat.le_trans hNU hb.size
      have HE7 := Lib.hid (HEU.out.after hb)
      have HT7 := Lib.hid (HTU.out.after hb)
      clear hb HBX HBU hNU HEU HTU
      go_wp2_with fail
      obtain ⟨U1, hU1⟩ : ∃ W, W = w7.alloc (.cells #[.int .u8 4, .slice none 0 0, .int .u8 0, .int .i64 0, .int .i64 1, .int .i64 1, .slice none 0 0, .int .i64 0] 43) := ⟨_, rfl⟩
      have hbu : Below w7.heap.size w7 U1 := hU1 ▸ held_alloc (Below.refl _ _)
      have bxx : Box U1 w7.heap.size #[.int .u8 4, .slice none 0 0, .int .u8 0, .int .i64 0, .int .i64 1, .int .i64 1, .slice none 0 0, .int .i64 0] 43 := hU1 ▸ Box.new w7 _ _
      have HBX : Hid (SlC (fun x => x = w7.heap.size ∨ False) U1 (.slice (some ⟨w7.heap.size, 0, none⟩) 1 1) [.mk 4 [] 0 0 1 1 [] 0]) := SlC.one (D := fun _ => False) (vn := .slice none 0 0) (vi := .slice none 0 0) bxx (hasC_iff.2 ⟨⟨by decide, by decide, ⟨by decide, by decide⟩, ⟨by decide, by decide⟩, ⟨by decide, by decide⟩, ⟨by decide, by decide⟩⟩, SlN.nil _ _, SlC.nil _ _⟩)
      clear bxx
      have HBU := Lib.hid (HB7.out.trans (hbu.mono HB7.out.size))
      have hNU : N ≤ U1.heap.size := Nat.le_trans hN7 hbu.size
      have HEU := Lib.hid (HE7.out.after hbu)
      have HTU := Lib.hid (HT7.out.after hbu)
      clear hbu

      rw [← hU1]
      clear hU1
      refine (SPrint_all N _ _ _ _ HBX.out hNU HEU.out HTU.out (fun _ => by decide)).mono ?_
      rw [print_c1]
      rintro e w8 ⟨rfl, hb⟩
      have HB8 := Lib.hid (HBU.out.trans (hb.mono HBU.out.size))
      have hN8 : N ≤ w8.heap.size := Nat.le_trans hNU hb.size
      have HE8 := Lib.hid (HEU.out.after hb)
      have HT8 := Lib.hid (HTU.out.after hb)
      clear hb HBX HBU hNU HEU HTU
      go_wp2_with fail
      obtain ⟨U2, hU2⟩ : ∃ W, W = w8.alloc (.cells #[.int .u8 3, .slice none 0 0, .int .u8 0, .int .i64 0, .int .i64 0, .int .i64 0, .slice none 0 0, .int .i64 0] 43) := ⟨_, rfl⟩
      have hbu : Below w8.heap.size w8 U2 := hU2 ▸ held_alloc (Below.refl _ _)
      have bxx : Box U2 w8.heap.size #[.int .u8 3, .slice none 0 0, .int .u8 0, .int .i64 0, .int .i64 0, .int .i64 0, .slice none 0 0, .int .i64 0] 43 := hU2 ▸ Box.new w8 _ _
      have HBX : Hid (SlC (fun x => x = w8.heap.size ∨ False) U2 (.slice (some ⟨w8.heap.size, 0, none⟩) 1 1) [.mk 3 [] 0 0 0 0 [] 0]) := SlC.one (D := fun _ => False) (vn := .slice none 0 0) (vi := .slice none 0 0) bxx (hasC_iff.2 ⟨⟨by decide, by decide, ⟨by decide, by decide⟩, ⟨by decide, by decide⟩, ⟨by decide, by decide⟩, ⟨by decide, by decide⟩⟩, SlN.nil _ _, SlC.nil _ _⟩)
      clear bxx
      have HBU := Lib.hid (HB8.out.trans (hbu.mono HB8.out.size))
      have hNU : N ≤ U2.heap.size := Nat.le_trans hN8 hbu.size
      have HEU := Lib.hid (HE8.out.after hbu)
      have HTU := Lib.hid (HT8.out.after hbu)
      clear hbu

      rw [← hU2]
      clear hU2
      refine (SPrint_all N _ _ _ _ HBX.out hNU HEU.out HTU.out (fun _ => by decide)).mono ?_
      rw [print_c2]
      rintro e w9 ⟨rfl, hb⟩
      have HB9 := Lib.hid (HBU.out.trans (hb.mono HBU.out.size))
      have hN9 : N ≤ w9.heap.size := Nat.le_trans hNU hb.size
      have HE9 := Lib.hid (HEU.out.after hb)
      have HT9 := Lib.hid (HTU.out.after hb)
      clear hb HBX HBU hNU HEU HTU
      go_wp2_with fail
      obtain ⟨V3, hV3⟩ : ∃ W, W = w9.alloc (.cells #[.string ⟨#[114, 111, 119]⟩] 9) := ⟨_, rfl⟩
      have hbv : Below w9.heap.size w9 V3 := hV3 ▸ held_alloc (Below.refl _ _)
      have hsv : V3.heap.size = w9.heap.size + 1 := by rw [hV3]; simp
      have bxv : Box V3 w9.heap.size #[.string (bs [114, 111, 119])] 9 := hV3 ▸ Box.new w9 _ _
      obtain ⟨U3, hU3⟩ : ∃ W, W = V3.alloc (.cells #[.int .u8 1, .slice (some ⟨w9.heap.size, 0, none⟩) 1 1, .int .u8 0, .int .i64 0, .int .i64 0, .int .i64 0, .slice none 0 0, .int .i64 0] 43) := ⟨_, rfl⟩
      have hbu1 : Below V3.heap.size V3 U3 := hU3 ▸ held_alloc (Below.refl _ _)
      have bxx : Box U3 V3.heap.size #[.int .u8 1, .slice (some ⟨w9.heap.size, 0, none⟩) 1 1, .int .u8 0, .int .i64 0, .int .i64 0, .int .i64 0, .slice none 0 0, .int .i64 0] 43 := hU3 ▸ Box.new V3 _ _
      have bxu := bxv.after hbu1
      have hbu : Below w9.heap.size w9 U3 := hbv.trans (hbu1.mono (by omega))
      have HBX : Hid (SlC (fun x => x = V3.heap.size ∨ x = w9.heap.size) U3 (.slice (some ⟨V3.heap.size, 0, none⟩) 1 1) [.mk 1 [[114, 111, 119]] 0 0 0 0 [] 0]) := SlC.one (D := fun x => x = w9.heap.size) (vn := .slice (some ⟨w9.heap.size, 0, none⟩) 1 1) (vi := .slice none 0 0) bxx (hasC_iff.2 ⟨⟨by decide, by decide, ⟨by decide, by decide⟩, ⟨by decide, by decide⟩, ⟨by decide, by decide⟩, ⟨by decide, by decide⟩⟩, SlN.one1 (by decide) bxu, SlC.nil _ _⟩)
      rw [hsv] at HBX
      clear bxx
      have HBU := Lib.hid (HB9.out.trans (hbu.mono HB9.out.size))
      have hNU : N ≤ U3.heap.size := Nat.le_trans hN9 hbu.size
      have HEU := Lib.hid (HE9.out.after hbu)
      have HTU := Lib.hid (HT9.out.after hbu)
      clear hbu hbu1 bxu bxv hbv

      rw [← hV3, ← hU3]
      clear hU3 hV3 hsv
      refine (SPrint_all N _ _ _ _ HBX.out hNU HEU.out HTU.out (fun _ => by decide)).mono ?_
      rw [print_c3]
      rintro e w10 ⟨rfl, hb⟩
      have HB10 := Lib.hid (HBU.out.trans (hb.mono HBU.out.size))
      have hN10 : N ≤ w10.heap.size := Nat.le_trans hNU hb.size
      have HE10 := Lib.hid (HEU.out.after hb)
      have HT10 := Lib.hid (HTU.out.after hb)
      clear hb HBX HBU hNU HEU HTU
      go_wp2_with fail
      obtain ⟨U4, hU4⟩ : ∃ W, W = w10.alloc (.cells #[.int .u8 4, .slice none 0 0, .int .u8 0, .int .i64 0, .int .i64 1000000000, .int .i64 0, .slice none 0 0, .int .i64 0] 43) := ⟨_, rfl⟩
      have hbu : Below w10.heap.size w10 U4 := hU4 ▸ held_alloc (Below.refl _ _)
      have bxx : Box U4 w10.heap.size #[.int .u8 4, .slice none 0 0, .int .u8 0, .int .i64 0, .int .i64 1000000000, .int .i64 0, .slice none 0 0, .int .i64 0] 43 := hU4 ▸ Box.new w10 _ _
      have HBX : Hid (SlC (fun x => x = w10.heap.size ∨ False) U4 (.slice (some ⟨w10.heap.size, 0, none⟩) 1 1) [.mk 4 [] 0 0 1000000000 0 [] 0]) := SlC.one (D := fun _ => False) (vn := .slice none 0 0) (vi := .slice none 0 0) bxx (hasC_iff.2 ⟨⟨by decide, by decide, ⟨by decide, by decide⟩, ⟨by decide, by decide⟩, ⟨by decide, by decide⟩, ⟨by decide, by decide⟩⟩, SlN.nil _ _, SlC.nil _ _⟩)
      clear bxx
      have HBU := Lib.hid (HB10.out.trans (hbu.mono HB10.out.size))
      have hNU : N ≤ U4.heap.size := Nat.le_trans hN10 hbu.size
      have HEU := Lib.hid (HE10.out.after hbu)
      have HTU := Lib.hid (HT10.out.after hbu)
      clear hbu

      rw [← hU4]
      clear hU4
      refine (SPrint_all N _ _ _ _ HBX.out hNU HEU.out HTU.out (fun _ => by decide)).mono ?_
      rw [print_c4]
      rintro e w11 ⟨rfl, hb⟩
      have HB11 := Lib.hid (HBU.out.trans (hb.mono HBU.out.size))
      have hN11 : N ≤ w11.heap.size := Nat.le_trans hNU hb.size
      have HE11 := Lib.hid (HEU.out.after hb)
      have HT11 := Lib.hid (HTU.out.after hb)
      clear hb HBX HBU hNU HEU HTU
      go_wp2_with fail
      refine (Parse_c N _ k3S (by decide) hN11 HE11.out).mono ?_
      rw [HK3.out]
      rintro e w12 ⟨v3, rfl, hv, hb⟩
      have HB12 := Lib.hid (HB11.out.trans (hb.mono HB11.out.size))
      have hN12 : N ≤ w12.heap.size := Nat.le_trans hN11 hb.size
      have HE12 := Lib.hid (HE11.out.after hb)
      have HT12 := Lib.hid (HT11.out.after hb)
      have V3 := Lib.hid hv
      obtain ⟨sa12, sc12, rfl, k12, kk12, _⟩ := hv.shape
      clear hv hb
      go_wp2_with fail
      refine (sawake_c N _ hN12 HE12.out HT12.out).mono ?_
      rintro e w13 ⟨rfl, hb⟩
      have HB13 := Lib.hid (HB12.out.trans (hb.mono HB12.out.size))
      clear hb
      go_wp2_with fail
      go_ret
      exact ⟨rfl, HB13.out⟩
end Go.Proofs.YtganlldidjbpiaaGreatDoor
